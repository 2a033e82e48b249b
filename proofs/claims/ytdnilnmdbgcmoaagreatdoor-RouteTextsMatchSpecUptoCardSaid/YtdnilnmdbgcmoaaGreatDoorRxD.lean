/- Chapter texts of ours, as far as the claim needs them. -/
import Derived.Test.YtdnilnmdbgcmoaaGreatDoorRxC
import Derived.Test.YtdnilnmdbgcmoaaGreatDoorTextS
namespace Go.Proofs.YtdnilnmdbgcmoaaGreatDoor
open Go Go.RowKit Go.Proofs Go.Shelf
set_option linter.unusedVariables false
set_option linter.unusedSectionVars false
set_option linter.unusedSimpArgs false
def cellWord (c : Cell) : Str := Lib.itoa c.X ++ 44 :: (Lib.itoa c.Y ++ 44 :: Lib.itoa c.Layer)
def wayWords (w : List Cell) : List Str := wWay :: w.map cellWord
def wayLine (w : List Cell) : Str := joinS (wayWords w) ++ [10]
def netLine (x : Routed) : Str := joinS [wNet, x.Net] ++ [10]
def netText (x : Routed) : Str := netLine x ++ x.Ways.flatMap wayLine
def textR (r : List Routed) : Str := r.flatMap netText
structure CellW (c : Cell) : Prop where
  x : 0 ≤ c.X ∧ c.X ≤ 200
  y : 0 ≤ c.Y ∧ c.Y ≤ 200
  l : 0 ≤ c.Layer ∧ c.Layer ≤ 200
structure WayW (w : List Cell) : Prop where
  ne : w ≠ []
  cells : ∀ c ∈ w, CellW c
structure NetW (x : Routed) : Prop where
  net : isRowS x.Net = true
  ways : ∀ w ∈ x.Ways, WayW w
open Classical in
noncomputable def textOut (r : List Routed) : Str × Int := if ∀ x ∈ r, NetW x then (if 2000000 < (textR r).length then ([], 2) else (textR r, 0)) else ([], 3)
theorem textOut_bad {r : List Routed} {x : Routed} (hx : x ∈ r) (h : ¬ NetW x) : textOut r = ([], 3) := by
  unfold textOut; exact if_neg fun hh => h (hh x hx)
theorem textOut_good {r : List Routed} (h : ∀ x ∈ r, NetW x) : textOut r = if 2000000 < (textR r).length then ([], 2) else (textR r, 0) := by
  unfold textOut; exact if_pos h
theorem take_flat {α : Type} (f : α → Str) {l : List α} {k : Nat} {x : α} (hx : l[k]? = some x) : (l.take (k + 1)).flatMap f = (l.take k).flatMap f ++ f x := by
  rw [List.take_add_one, hx, List.flatMap_append]; simp
theorem side_itoa {n : Int} (h0 : 0 ≤ n) (h1 : n ≤ 200) : (Lib.itoa n).length ≤ 3 ∧ numeral (Lib.itoa n) = true ∧ sideOf (Lib.itoa n) = (n, true) := by
  have e := numOf_itoa (n := n) h0 (by omega)
  have hn : numeral (Lib.itoa n) = true := by
    cases h : numeral (Lib.itoa n)
    · unfold numOf at e; rw [h] at e; cases e
    · rfl
  have hl : (Lib.itoa n).length ≤ 3 := by
    obtain ⟨u, rfl⟩ := Int.eq_ofNat_of_zero_le h0
    rw [itoa_nat]; exact dec_length 2 u (by omega)
  refine ⟨hl, hn, ?_⟩
  rw [sideOf_yes hl hn, e]
  simp; exact h1
theorem word_len {c : Cell} (h : CellW c) : (cellWord c).length ≤ 11 := by
  have h1 := (side_itoa h.x.1 h.x.2).1
  have h2 := (side_itoa h.y.1 h.y.2).1
  have h3 := (side_itoa h.l.1 h.l.2).1
  unfold cellWord
  simp only [List.length_append, List.length_cons]; omega
theorem isI64_side {n : Int} (h : 0 ≤ n ∧ n ≤ 200) : isI64 n := ⟨by omega, by omega⟩
theorem digits_bytes {s : Str} (h : numeral s = true) : ∀ b ∈ s, 48 ≤ b.toNat ∧ b.toNat ≤ 57 := by
  intro b hb
  obtain ⟨_, _, h3, _⟩ := numOf_ok h
  have := List.all_eq_true.1 h3 b hb
  unfold isDig at this
  simp at this; omega
theorem split_lastC (c : UInt8) (l : Str) (h : ∀ b ∈ l, b ≠ c) : Lib.split l [c] = [l] := by
  unfold Lib.split
  rw [Lib.count_one, count_none l c h]
  rfl
theorem split_wordC (c : UInt8) (l t : Str) (h : ∀ b ∈ l, b ≠ c) : Lib.split (l ++ c :: t) [c] = l :: Lib.split t [c] := by
  unfold Lib.split
  rw [Lib.count_one, Lib.count_one, List.count_append, count_none l c h, List.count_cons_self, Nat.zero_add]
  show (if Lib.index (l ++ c :: t) [c] == -1 then [l ++ c :: t] else (l ++ c :: t).take ((Lib.index (l ++ c :: t) [c]).toNat + 0) :: Lib.splitK [c] 0 (t.count c) ((l ++ c :: t).drop ((Lib.index (l ++ c :: t) [c]).toNat + ([c] : List UInt8).length))) = l :: Lib.splitK [c] 0 (t.count c) t
  rw [Lib.index_one, indexByte_at l t c h]
  rw [if_neg (by rw [beq_iff_eq]; omega)]
  have e1 : (l ++ c :: t).take ((l.length : Int).toNat + 0) = l := by simp
  have e2 : (l ++ c :: t).drop ((l.length : Int).toNat + ([c] : List UInt8).length) = t := by
    rw [List.length_singleton, Int.toNat_natCast, ← List.drop_drop, List.drop_left]
    rfl
  rw [e1, e2]
theorem cell_word {c : Cell} (h : CellW c) : cellOf (cellWord c) = some c := by
  obtain ⟨l1, n1, s1⟩ := side_itoa h.x.1 h.x.2
  obtain ⟨l2, n2, s2⟩ := side_itoa h.y.1 h.y.2
  obtain ⟨l3, n3, s3⟩ := side_itoa h.l.1 h.l.2
  have no : ∀ {s : Str}, numeral s = true → ∀ b ∈ s, b ≠ 44 := fun hs b hb e => by
    have := digits_bytes hs b hb
    rw [e] at this; revert this; decide
  have e : Lib.split (cellWord c) [44] = [Lib.itoa c.X, Lib.itoa c.Y, Lib.itoa c.Layer] := by
    unfold cellWord
    rw [split_wordC 44 _ _ (no n1), split_wordC 44 _ _ (no n2), split_lastC 44 _ (no n3)]
  unfold cellOf
  rw [e]
  show (if (sideOf (Lib.itoa c.X)).2 = true ∧ (sideOf (Lib.itoa c.Y)).2 = true ∧ (sideOf (Lib.itoa c.Layer)).2 = true then some (⟨(sideOf (Lib.itoa c.X)).1, (sideOf (Lib.itoa c.Y)).1, (sideOf (Lib.itoa c.Layer)).1⟩ : Cell) else none) = some c
  rw [s1, s2, s3]
  rfl
theorem word_row {c : Cell} (h : CellW c) : isRowS (cellWord c) = true := by
  have r1 := itoa_row (n := c.X) h.x.1 (by have := h.x; omega)
  have r2 := itoa_row (n := c.Y) h.y.1 (by have := h.y; omega)
  have r3 := itoa_row (n := c.Layer) h.l.1 (by have := h.l; omega)
  unfold isRowS at r1 r2 r3 ⊢
  rw [Bool.and_eq_true] at r1 r2 r3 ⊢
  refine ⟨by unfold cellWord; simp, ?_⟩
  unfold cellWord
  rw [List.all_append, List.all_cons, List.all_append, List.all_cons, r1.2, r2.2, r3.2]
  rfl
theorem way_words : ∀ {w : List Cell}, (∀ c ∈ w, CellW c) → wayOf (w.map cellWord) = some w
  | [], _ => rfl
  | c :: r, h => by
    rw [List.map_cons]
    unfold wayOf
    rw [cell_word (h c (List.mem_cons_self ..)), way_words (fun z hz => h z (List.mem_cons_of_mem _ hz))]
theorem cut_of {t L r : Str} (ht : t = L ++ 10 :: r) (hL : ∀ b ∈ L, b ≠ 10) : t ≠ [] ∧ cutS t 10 = (L, r, true) := by
  rw [ht]; exact ⟨by simp, cutS_line L r hL⟩
theorem join_mem : ∀ (ws : List Str) (x : Str) (b : UInt8), b ∈ joinS (x :: ws) → b = 32 ∨ ∃ y ∈ x :: ws, b ∈ y := by
  intro ws x b hb
  have hb' : b ∈ x ++ ws.flatMap (fun y => (32 : UInt8) :: y) := hb
  rcases List.mem_append.1 hb' with h | h
  · exact .inr ⟨x, List.mem_cons_self .., h⟩
  · obtain ⟨y, hy, hby⟩ := List.mem_flatMap.1 h
    rcases List.mem_cons.1 hby with h' | h'
    · exact .inl h'
    · exact .inr ⟨y, List.mem_cons_of_mem _ hy, h'⟩
theorem join_ne10 {ws : List Str} {x : Str} (h : ∀ y ∈ x :: ws, isRowS y = true) : ∀ b ∈ joinS (x :: ws), b ≠ 10 := by
  intro b hb
  rcases join_mem ws x b hb with h' | ⟨y, hy, hby⟩
  · rw [h']; decide
  · exact (row_bytes (h y hy) b hby).2
theorem split_join : ∀ (ws : List Str) (x : Str), (∀ y ∈ x :: ws, isRowS y = true) → Lib.split (joinS (x :: ws)) [32] = x :: ws
  | [], x, h => by
    have e : joinS [x] = x := by simp [joinS]
    rw [e]
    exact split_last x (fun b hb => (row_bytes (h x (List.mem_cons_self ..)) b hb).1)
  | y :: r, x, h => by
    have e : joinS (x :: y :: r) = x ++ 32 :: joinS (y :: r) := by simp [joinS]
    rw [e, split_word x _ (fun b hb => (row_bytes (h x (List.mem_cons_self ..)) b hb).1), split_join r y (fun z hz => h z (List.mem_cons_of_mem _ hz))]
theorem way_rows {w : List Cell} (h : WayW w) : ∀ y ∈ wayWords w, isRowS y = true := by
  intro y hy
  rcases List.mem_cons.1 hy with rfl | hy
  · decide
  · obtain ⟨c, hc, rfl⟩ := List.mem_map.1 hy
    exact word_row (h.cells c hc)
theorem net_rows {x : Routed} (h : NetW x) : ∀ y ∈ [wNet, x.Net], isRowS y = true := by
  intro y hy
  simp only [List.mem_cons, List.not_mem_nil, or_false] at hy
  rcases hy with rfl | rfl
  · decide
  · exact h.net
theorem addWay_last (r1 : List Routed) (y : Routed) (w : List Cell) : addWay (r1 ++ [y]) w = r1 ++ [⟨y.Net, y.Ways ++ [w]⟩] := by
  have hl : (r1 ++ [y]).length - 1 = r1.length := by rw [List.length_append, List.length_singleton]; omega
  have hg : (r1 ++ [y])[(r1 ++ [y]).length - 1]? = some y := by rw [hl]; simp
  rw [addWay_at hg, hl]
  simp
theorem read_net {k : Nat} {t : Str} {n : Int} {r1 : List Routed} {x : Routed} (hx : NetW x) : readS (k + 1) (netLine x ++ t) n r1 = readS k t (n + 1) (r1 ++ [⟨x.Net, []⟩]) := by
  have e : netLine x ++ t = joinS [wNet, x.Net] ++ 10 :: t := by unfold netLine; simp
  obtain ⟨hne, hc⟩ := cut_of e (join_ne10 (net_rows hx))
  have hs : Lib.split (joinS [wNet, x.Net]) [32] = [wNet, x.Net] := split_join _ _ (net_rows hx)
  conv => lhs; unfold readS
  rw [if_neg hne, hc]
  dsimp only
  rw [hs, lineR_net, if_pos hx.net]
theorem read_way {k : Nat} {t : Str} {n : Int} {r1 : List Routed} {y : Routed} {w : List Cell} (hw : WayW w) : readS (k + 1) (wayLine w ++ t) n (r1 ++ [y]) = readS k t (n + 1) (r1 ++ [⟨y.Net, y.Ways ++ [w]⟩]) := by
  have e : wayLine w ++ t = joinS (wayWords w) ++ 10 :: t := by unfold wayLine; simp
  obtain ⟨hne, hc⟩ := cut_of e (join_ne10 (way_rows hw))
  have hs : Lib.split (joinS (wayWords w)) [32] = wWay :: w.map cellWord := split_join _ _ (way_rows hw)
  conv => lhs; unfold readS
  rw [if_neg hne, hc]
  dsimp only
  rw [hs, lineR_way (by simpa using hw.ne) (by simp), way_words hw.cells]
  show readS k t (n + 1) (addWay (r1 ++ [y]) w) = _
  rw [addWay_last]
theorem read_ways : ∀ (ws : List (List Cell)) (k : Nat) (t : Str) (n : Int) (r1 : List Routed) (y : Routed), (∀ w ∈ ws, WayW w) → readS (ws.length + k) (ws.flatMap wayLine ++ t) n (r1 ++ [y]) = readS k t (n + ws.length) (r1 ++ [⟨y.Net, y.Ways ++ ws⟩])
  | [], k, t, n, r1, y, _ => by simp
  | w :: r, k, t, n, r1, y, h => by
    have e : (w :: r).length + k = (r.length + k) + 1 := by rw [List.length_cons]; omega
    rw [e, List.flatMap_cons, List.append_assoc, read_way (h w (List.mem_cons_self ..)), read_ways r k t _ _ _ (fun z hz => h z (List.mem_cons_of_mem _ hz))]
    congr 1
    · rw [List.length_cons]; omega
    · simp
def netLines (x : Routed) : Nat := x.Ways.length + 1
theorem read_nets : ∀ (s : List Routed) (k : Nat) (t : Str) (n : Int) (r1 : List Routed), (∀ x ∈ s, NetW x) → ∃ n', readS ((s.map netLines).sum + k) (s.flatMap netText ++ t) n r1 = readS k t n' (r1 ++ s)
  | [], k, t, n, r1, _ => ⟨n, by simp⟩
  | x :: r, k, t, n, r1, h => by
    have hx := h x (List.mem_cons_self ..)
    obtain ⟨n', hn'⟩ := read_nets r k t (n + 1 + x.Ways.length) (r1 ++ [x]) (fun y hy => h y (List.mem_cons_of_mem _ hy))
    refine ⟨n', ?_⟩
    have e : (((x :: r).map netLines).sum + k) = (x.Ways.length + ((r.map netLines).sum + k)) + 1 := by rw [List.map_cons, List.sum_cons]; unfold netLines; omega
    have e2 : (x :: r).flatMap netText ++ t = netLine x ++ (x.Ways.flatMap wayLine ++ (r.flatMap netText ++ t)) := by
      rw [List.flatMap_cons]; unfold netText; simp only [List.append_assoc]
    rw [e, e2, read_net hx, read_ways x.Ways _ _ _ _ _ hx.ways]
    have e3 : (⟨x.Net, [] ++ x.Ways⟩ : Routed) = x := rfl
    show readS _ _ _ (r1 ++ [(⟨x.Net, [] ++ x.Ways⟩ : Routed)]) = _
    rw [e3, hn', List.append_assoc]
    rfl
theorem flatMap_many {α : Type} (f : α → Str) (hf : ∀ x, 1 ≤ (f x).length) : ∀ l : List α, l.length ≤ (l.flatMap f).length
  | [] => by simp
  | x :: r => by
    have := hf x
    have := flatMap_many f hf r
    rw [List.flatMap_cons, List.length_append, List.length_cons]; omega
theorem lines_many : ∀ l : List Routed, (l.map netLines).sum ≤ (l.flatMap netText).length
  | [] => by simp
  | x :: r => by
    have h1 := lines_many r
    have h2 := flatMap_many wayLine (fun x => by unfold wayLine; rw [List.length_append]; simp) x.Ways
    have h3 : (netText x).length = ((joinS [wNet, x.Net]).length + 1) + (x.Ways.flatMap wayLine).length := by unfold netText netLine; rw [List.length_append, List.length_append, List.length_singleton]
    rw [List.map_cons, List.sum_cons, List.flatMap_cons, List.length_append]
    unfold netLines at h1 ⊢
    omega
theorem read_text {r : List Routed} (h : ∀ x ∈ r, NetW x) : readS ((textR r).length + 1) (textR r) 1 [] = (r, 0, 0) := by
  have h2 := lines_many r
  obtain ⟨i, hi⟩ : ∃ i, (textR r).length + 1 = (r.map netLines).sum + (i + 1) := ⟨(textR r).length - (r.map netLines).sum, by unfold textR; omega⟩
  rw [hi]
  have e : textR r = r.flatMap netText ++ [] := by unfold textR; rw [List.append_nil]
  obtain ⟨n', hn'⟩ := read_nets r (i + 1) [] 1 [] h
  rw [e, hn']
  unfold readS
  rw [if_pos rfl]
  rfl
theorem flat_le {α : Type} [Bulk α] (f : α → Str) (k : Nat) : ∀ (l : List α), (∀ x ∈ l, (f x).length ≤ k * Bulk.bk x) → (l.flatMap f).length ≤ k * (l.map Bulk.bk).sum
  | [], _ => by simp
  | x :: r, h => by
    rw [List.flatMap_cons, List.length_append, List.map_cons, List.sum_cons, Nat.mul_add]
    have h1 := h x (List.mem_cons_self ..)
    have h2 := flat_le f k r (fun y hy => h y (List.mem_cons_of_mem _ hy))
    omega
theorem bk_take {α : Type} [Bulk α] (l : List α) (k : Nat) : ((l.take k).map Bulk.bk).sum ≤ (l.map Bulk.bk).sum := by
  have e : (l.map Bulk.bk).sum = ((l.take k).map Bulk.bk).sum + ((l.drop k).map Bulk.bk).sum := by
    rw [← List.sum_append, ← List.map_append, List.take_append_drop]
  omega
theorem words_le {w : List Cell} (h : ∀ c ∈ w, CellW c) : (w.flatMap fun c => (32 : UInt8) :: cellWord c).length ≤ 12 * (w.map Bulk.bk).sum := by
  refine flat_le _ 12 w fun c hc => ?_
  have := word_len (h c hc)
  have := Bulk.one c
  rw [List.length_cons]; omega
theorem join_words (w : List Cell) : joinS (wayWords w) = wWay ++ w.flatMap (fun c => (32 : UInt8) :: cellWord c) := by
  show wWay ++ (w.map cellWord).flatMap _ = _
  rw [List.flatMap_map]
theorem wayLine_le {w : List Cell} (h : WayW w) : (wayLine w).length ≤ 12 * Bulk.bk w := by
  have h1 := words_le h.cells
  have h2 : Bulk.bk w = (w.map Bulk.bk).sum + 1 := rfl
  unfold wayLine
  rw [join_words, List.length_append, List.length_append, List.length_singleton]
  show 3 + _ + 1 ≤ _
  omega
theorem netLine_len (x : Routed) : (netLine x).length = x.Net.length + 5 := by
  unfold netLine joinS wNet
  simp only [List.length_append, List.length_cons, List.length_nil, List.flatMap_cons, List.flatMap_nil, List.append_nil]
  omega
theorem netText_le {x : Routed} (h : NetW x) : (netText x).length ≤ 12 * Bulk.bk x := by
  have h1 := flat_le wayLine 12 x.Ways (fun w hw => wayLine_le (h.ways w hw))
  have h2 : Bulk.bk x = (x.Net.length + 1) + ((((x.Ways.map Bulk.bk).sum + 1)) + 1) := rfl
  unfold netText
  rw [List.length_append, netLine_len]; omega
end Go.Proofs.YtdnilnmdbgcmoaaGreatDoor

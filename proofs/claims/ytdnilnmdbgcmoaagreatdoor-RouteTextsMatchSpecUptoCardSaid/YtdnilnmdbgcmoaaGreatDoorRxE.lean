/- Chapter texts of ours, as far as the claim needs them. -/
import Derived.Test.YtdnilnmdbgcmoaaGreatDoorRxD
namespace Go.Proofs.YtdnilnmdbgcmoaaGreatDoor
open Go Go.RowKit Go.Proofs Go.Shelf
set_option linter.unusedVariables false
set_option linter.unusedSectionVars false
set_option linter.unusedSimpArgs false
theorem cell_piece (c : Cell) : ((((([32] ++ (itoaS c.X)) ++ [44]) ++ (itoaS c.Y)) ++ [44]) ++ (itoaS c.Layer) : Str) = 32 :: cellWord c := by
  unfold cellWord itoaS; simp
theorem cell_of_within {c : Cell} (h1 : within c.X 0 200 = true) (h2 : within c.Y 0 200 = true) (h3 : within c.Layer 0 200 = true) : CellW c := by
  unfold within at h1 h2 h3
  simp at h1 h2 h3
  exact ⟨by omega, by omega, by omega⟩
theorem within_cell {c : Cell} (h : CellW c) : within c.X 0 200 = true ∧ within c.Y 0 200 = true ∧ within c.Layer 0 200 = true := by
  have := h.x; have := h.y; have := h.l
  unfold within; simp; omega
theorem piece_len {c : Cell} (h : CellW c) : (itoaS c.X).length ≤ 3 ∧ (itoaS c.Y).length ≤ 3 ∧ (itoaS c.Layer).length ≤ 3 := ⟨(side_itoa h.x.1 h.x.2).1, (side_itoa h.y.1 h.y.2).1, (side_itoa h.l.1 h.l.2).1⟩
theorem piece_musts {c : Cell} (h : CellW c) {P : Prop} (hp : P) : must (isI64 c.X) (must ([32].length + (itoaS c.X).length ≤ 9223372036854775807) (must (([32] ++ (itoaS c.X)).length + [44].length ≤ 9223372036854775807) (must (isI64 c.Y) (must ((([32] ++ (itoaS c.X)) ++ [44]).length + (itoaS c.Y).length ≤ 9223372036854775807) (must (((([32] ++ (itoaS c.X)) ++ [44]) ++ (itoaS c.Y)).length + [44].length ≤ 9223372036854775807) (must (isI64 c.Layer) (must ((((([32] ++ (itoaS c.X)) ++ [44]) ++ (itoaS c.Y)) ++ [44]).length + (itoaS c.Layer).length ≤ 9223372036854775807) P))))))) := by
  obtain ⟨l1, l2, l3⟩ := piece_len h
  refine ⟨isI64_side h.x, ?_, ?_, isI64_side h.y, ?_, ?_, isI64_side h.l, ?_, hp⟩ <;> simp only [List.length_append, List.length_cons, List.length_nil] <;> omega
theorem bulk_ways {x : Routed} {w : List Cell} (hw : w ∈ x.Ways) : Bulk.bk w ≤ Bulk.bk x := by
  have := bulk_mem hw
  have : Bulk.bk x = (x.Net.length + 1) + (Bulk.bk x.Ways + 1) := rfl
  omega
theorem net_len {x : Routed} : x.Net.length ≤ Bulk.bk x := by
  have : Bulk.bk x = (x.Net.length + 1) + (Bulk.bk x.Ways + 1) := rfl
  omega
theorem take_all {α : Type} {P : α → Prop} {l : List α} {k : Nat} {x : α} (hx : l[k]? = some x) (h : ∀ y ∈ l.take k, P y) (hp : P x) : ∀ y ∈ l.take (k + 1), P y := by
  rw [take_at hx]
  intro y hy
  rcases List.mem_append.1 hy with hy | hy
  · exact h y hy
  · rw [List.mem_singleton.1 hy]; exact hp
theorem parts_le {α : Type} [Bulk α] (f : α → Str) {l : List α} {k : Nat} {x : α} (hx : l[k]? = some x) (h : ∀ y ∈ l.take k, (f y).length ≤ 12 * Bulk.bk y) : ((l.take k).flatMap f).length + 12 * Bulk.bk x ≤ 12 * Bulk.bk l := by
  have h1 := flat_le f 12 (l.take k) h
  have h2 := bk_take l (k + 1)
  rw [take_at hx, List.map_append, List.sum_append] at h2
  simp only [List.map_cons, List.map_nil, List.sum_cons, List.sum_nil] at h2
  have h3 : Bulk.bk l = (l.map Bulk.bk).sum + 1 := rfl
  omega
theorem room_1 {n : Nat} (h : n ≤ 100000000) : room n 1 := ⟨by omega, by omega⟩
theorem netLine_eq (x : Routed) : (([110, 101, 116, 32] ++ x.Net) ++ [10] : Str) = netLine x := by
  unfold netLine joinS wNet; simp
theorem wayLine_eq (w : List Cell) (s : Str) : ((s ++ [119, 97, 121]) ++ w.flatMap (fun c => (32 : UInt8) :: cellWord c)) ++ [10] = s ++ wayLine w := by
  unfold wayLine
  rw [join_words]
  simp [wWay, List.append_assoc]
theorem cells_room {w : List Cell} {k : Nat} {c : Cell} (hx : w[k]? = some c) (h : ∀ y ∈ w.take k, CellW y) : ((w.take k).flatMap (fun c => (32 : UInt8) :: cellWord c)).length + 12 * Bulk.bk c ≤ 12 * Bulk.bk w :=
  parts_le _ hx fun y hy => by
    have := word_len (h y hy)
    have := Bulk.one y
    rw [List.length_cons]; omega
theorem S_route_Text {r : List Routed} (hk : Bulk.bk r ≤ 1048576) {Q : Str → Int → Prop} (h : Q (textOut r).1 (textOut r).2) : M_route_Text r Q := by
  unfold M_route_Text
  have bad : ∀ x ∈ r, ¬ NetW x → Q [] 3 := fun x hx hb => by rw [textOut_bad hx hb] at h; exact h
  refine forIn0 (fun k (st : List UInt8 × Bool) => st.1 = (r.take k).flatMap netText ∧ ∀ y ∈ r.take k, NetW y) ⟨rfl, fun y hy => by simp at hy⟩ (fun k x st hx hI next hn => ?_) (fun st hI => ?_)
  · have hxr := List.mem_of_getElem? hx
    have hp := parts_le netText hx (fun y hy => netText_le (hI.2 y hy))
    have hnl := net_len (x := x)
    have hll := netLine_len x
    unfold M_route_Text_L1
    refine S_route_isRow (cnd_of (fun e => bad x hxr fun hw => by rw [hw.net] at e; cases e) (fun e => ?_))
    have hnet : isRowS x.Net = true := by simpa using e
    rw [netLine_eq]
    unfold M_bld_WriteString M_bld_copyCheck
    have hst : st.1.length ≤ 12 * Bulk.bk r := by rw [hI.1]; omega
    refine ⟨by simp only [List.length_cons, List.length_nil]; omega, by simp only [List.length_append, List.length_cons, List.length_nil]; omega, room_1 (by show (st.1 ++ netLine x).length ≤ _; rw [List.length_append]; omega), ?_⟩
    refine forIn0 (fun k (s2 : List UInt8 × Bool) => s2.1 = (st.1 ++ netLine x) ++ (x.Ways.take k).flatMap wayLine ∧ ∀ y ∈ x.Ways.take k, WayW y) ⟨by simp, fun y hy => by simp at hy⟩ (fun k w s2 hw hI2 next2 hn2 => ?_) (fun s2 hI2 => ?_)
    · have hwx := List.mem_of_getElem? hw
      have hp2 := parts_le wayLine hw (fun y hy => wayLine_le (hI2.2 y hy))
      have hbk : Bulk.bk x = (x.Net.length + 1) + (Bulk.bk x.Ways + 1) := rfl
      have hs2 : s2.1.length ≤ 12 * Bulk.bk r + (x.Net.length + 5) + 12 * Bulk.bk x := by rw [hI2.1, List.length_append, List.length_append]; omega
      unfold M_route_Text_L2
      refine cnd_of (fun e => bad x hxr fun hh => (hh.ways w hwx).ne (by simpa using e)) (fun e => ?_)
      have hne : w ≠ [] := fun e' => by rw [e'] at e; simp at e
      unfold M_bld_WriteString M_bld_copyCheck
      refine ⟨room_1 (by show (s2.1 ++ [119, 97, 121]).length ≤ _; rw [List.length_append]; simp only [List.length_cons, List.length_nil]; omega), ?_⟩
      refine forIn0 (fun k (s3 : List UInt8 × Bool) => s3.1 = (s2.1 ++ [119, 97, 121]) ++ (w.take k).flatMap (fun c => (32 : UInt8) :: cellWord c) ∧ ∀ y ∈ w.take k, CellW y) ⟨by simp, fun y hy => by simp at hy⟩ (fun k c s3 hc hI3 next3 hn3 => ?_) (fun s3 hI3 => ?_)
      · have hcw := List.mem_of_getElem? hc
        have hp3 := cells_room hc hI3.2
        have hbw := bulk_ways hwx
        have hs3 : s3.1.length ≤ 12 * Bulk.bk r + (x.Net.length + 5) + 12 * Bulk.bk x + 3 + 12 * Bulk.bk x := by rw [hI3.1, List.length_append, List.length_append]; simp only [List.length_cons, List.length_nil]; omega
        unfold M_route_Text_L3 M_route_isSide M_route_Text_k4
        have no : ¬ CellW c → Q [] 3 := fun hh => bad x hxr fun hx' => hh ((hx'.ways w hwx).cells c hcw)
        refine cnd_of (fun e1 => cnd_of (fun _ => no fun hh => by rw [(within_cell hh).1] at e1; cases e1) (fun e' => by cases e')) (fun e1 => cnd_of (fun e2 => cnd_of (fun _ => no fun hh => by rw [(within_cell hh).2.1] at e2; cases e2) (fun e' => by cases e')) (fun e2 => cnd_of (fun e3 => no fun hh => by rw [(within_cell hh).2.2] at e3; cases e3) (fun e3 => ?_)))
        have hcW : CellW c := cell_of_within (by simpa using e1) (by simpa using e2) (by simpa using e3)
        refine piece_musts hcW ?_
        rw [cell_piece]
        have hwl := word_len hcW
        refine ⟨room_1 (by show (s3.1 ++ (32 :: cellWord c)).length ≤ _; rw [List.length_append, List.length_cons]; omega), hn3 _ ⟨?_, take_all hc hI3.2 hcW⟩⟩
        show s3.1 ++ (32 :: cellWord c) = _
        rw [take_flat _ hc, hI3.1, List.append_assoc]
      · rw [List.take_length] at hI3
        have hcs : (w.flatMap (fun c => (32 : UInt8) :: cellWord c)).length ≤ 12 * (w.map Bulk.bk).sum := words_le hI3.2
        have hb3 : Bulk.bk w = (w.map Bulk.bk).sum + 1 := rfl
        have hbw := bulk_ways hwx
        have hs3 : s3.1.length ≤ 12 * Bulk.bk r + (x.Net.length + 5) + 12 * Bulk.bk x + 3 + 12 * Bulk.bk x := by rw [hI3.1, List.length_append, List.length_append]; simp only [List.length_cons, List.length_nil]; omega
        refine ⟨room_1 (by show (s3.1 ++ [10]).length ≤ _; rw [List.length_append, List.length_singleton]; omega), hn2 _ ⟨?_, take_all hw hI2.2 ⟨hne, hI3.2⟩⟩⟩
        show s3.1 ++ [10] = _
        rw [hI3.1, wayLine_eq, hI2.1, take_flat wayLine hw, List.append_assoc]
    · rw [List.take_length] at hI2
      refine hn _ ⟨?_, take_all hx hI.2 ⟨hnet, hI2.2⟩⟩
      show s2.1 = _
      rw [hI2.1, take_flat netText hx, hI.1, List.append_assoc]
      rfl
  · rw [List.take_length] at hI
    rw [textOut_good hI.2] at h
    have e1 : st.1 = textR r := hI.1
    unfold M_bld_Len
    refine cnd_of (fun e => ?_) (fun e => ?_)
    · have : 2000000 < ((st.1.length : Nat) : Int) := by simpa using e
      rw [e1] at this
      rw [if_pos (by omega)] at h; exact h
    · have : ¬ 2000000 < ((st.1.length : Nat) : Int) := by simpa using e
      rw [e1] at this
      rw [if_neg (by omega)] at h
      rw [e1]; exact h
theorem S_ref7_Text {r : List Routed} (hk : Bulk.bk r ≤ 1048576) {Q : Str → Int → Prop} (h : Q (textOut r).1 (textOut r).2) : M_ref7_Text r Q := by
  unfold M_ref7_Text
  have bad : ∀ x ∈ r, ¬ NetW x → Q [] 3 := fun x hx hb => by rw [textOut_bad hx hb] at h; exact h
  refine forIn0 (fun k (st : Str) => st = (r.take k).flatMap netText ∧ ∀ y ∈ r.take k, NetW y) ⟨rfl, fun y hy => by simp at hy⟩ (fun k x st hx hI next hn => ?_) (fun st hI => ?_)
  · have hxr := List.mem_of_getElem? hx
    have hp := parts_le netText hx (fun y hy => netText_le (hI.2 y hy))
    have hnl := net_len (x := x)
    have hll := netLine_len x
    have hbx := bulk_mem hxr
    unfold M_ref7_Text_L1
    refine S_ref7_isRow (by omega) (cnd_of (fun e => bad x hxr fun hw => by rw [hw.net] at e; cases e) (fun e => ?_))
    have hnet : isRowS x.Net = true := by simpa using e
    rw [netLine_eq]
    have hst : st.length ≤ 12 * Bulk.bk r := by rw [hI.1]; omega
    refine ⟨by simp only [List.length_cons, List.length_nil]; omega, by simp only [List.length_append, List.length_cons, List.length_nil]; omega, by omega, ?_⟩
    refine forIn0 (fun k (s2 : Str) => s2 = (st ++ netLine x) ++ (x.Ways.take k).flatMap wayLine ∧ ∀ y ∈ x.Ways.take k, WayW y) ⟨by simp, fun y hy => by simp at hy⟩ (fun k w s2 hw hI2 next2 hn2 => ?_) (fun s2 hI2 => ?_)
    · have hwx := List.mem_of_getElem? hw
      have hp2 := parts_le wayLine hw (fun y hy => wayLine_le (hI2.2 y hy))
      have hbk : Bulk.bk x = (x.Net.length + 1) + (Bulk.bk x.Ways + 1) := rfl
      have hs2 : s2.length ≤ 12 * Bulk.bk r + (x.Net.length + 5) + 12 * Bulk.bk x := by rw [hI2.1, List.length_append, List.length_append]; omega
      unfold M_ref7_Text_L2
      refine cnd_of (fun e => bad x hxr fun hh => (hh.ways w hwx).ne (by simpa using e)) (fun e => ?_)
      have hne : w ≠ [] := fun e' => by rw [e'] at e; simp at e
      refine ⟨by simp only [List.length_cons, List.length_nil]; omega, ?_⟩
      refine forIn0 (fun k (s3 : Str) => s3 = (s2 ++ [119, 97, 121]) ++ (w.take k).flatMap (fun c => (32 : UInt8) :: cellWord c) ∧ ∀ y ∈ w.take k, CellW y) ⟨by simp, fun y hy => by simp at hy⟩ (fun k c s3 hc hI3 next3 hn3 => ?_) (fun s3 hI3 => ?_)
      · have hcw := List.mem_of_getElem? hc
        have hp3 := cells_room hc hI3.2
        have hbw := bulk_ways hwx
        have hs3 : s3.length ≤ 12 * Bulk.bk r + (x.Net.length + 5) + 12 * Bulk.bk x + 3 + 12 * Bulk.bk x := by rw [hI3.1, List.length_append, List.length_append]; simp only [List.length_cons, List.length_nil]; omega
        unfold M_ref7_Text_L3 M_ref7_Text_k4
        have no : ¬ CellW c → Q [] 3 := fun hh => bad x hxr fun hx' => hh ((hx'.ways w hwx).cells c hcw)
        refine cnd_of (fun e1 => cnd_of (fun _ => no fun hh => by rw [(within_cell hh).1] at e1; cases e1) (fun e' => by cases e')) (fun e1 => cnd_of (fun e2 => cnd_of (fun _ => no fun hh => by rw [(within_cell hh).2.1] at e2; cases e2) (fun e' => by cases e')) (fun e2 => cnd_of (fun e3 => no fun hh => by rw [(within_cell hh).2.2] at e3; cases e3) (fun e3 => ?_)))
        have hcW : CellW c := cell_of_within (by simpa using e1) (by simpa using e2) (by simpa using e3)
        refine piece_musts hcW ?_
        rw [cell_piece]
        have hwl := word_len hcW
        refine ⟨by rw [List.length_cons]; omega, hn3 _ ⟨?_, take_all hc hI3.2 hcW⟩⟩
        rw [take_flat _ hc, hI3.1, List.append_assoc]
      · rw [List.take_length] at hI3
        have hcs : (w.flatMap (fun c => (32 : UInt8) :: cellWord c)).length ≤ 12 * (w.map Bulk.bk).sum := words_le hI3.2
        have hb3 : Bulk.bk w = (w.map Bulk.bk).sum + 1 := rfl
        have hbw := bulk_ways hwx
        have hs3 : s3.length ≤ 12 * Bulk.bk r + (x.Net.length + 5) + 12 * Bulk.bk x + 3 + 12 * Bulk.bk x := by rw [hI3.1, List.length_append, List.length_append]; simp only [List.length_cons, List.length_nil]; omega
        refine ⟨by simp only [List.length_cons, List.length_nil]; omega, hn2 _ ⟨?_, take_all hw hI2.2 ⟨hne, hI3.2⟩⟩⟩
        rw [hI3.1, wayLine_eq, hI2.1, take_flat wayLine hw, List.append_assoc]
    · rw [List.take_length] at hI2
      refine hn _ ⟨?_, take_all hx hI.2 ⟨hnet, hI2.2⟩⟩
      rw [hI2.1, take_flat netText hx, hI.1, List.append_assoc]
      rfl
  · rw [List.take_length] at hI
    rw [textOut_good hI.2] at h
    have e1 : st = textR r := hI.1
    refine cnd_of (fun e => ?_) (fun e => ?_)
    · have : 2000000 < ((st.length : Nat) : Int) := by simpa using e
      rw [e1] at this
      rw [if_pos (by omega)] at h; exact h
    · have : ¬ 2000000 < ((st.length : Nat) : Int) := by simpa using e
      rw [e1] at this
      rw [if_neg (by omega)] at h
      rw [e1]; exact h
theorem law_RouteTexts_upto (r : List Routed) (hk : Bulk.bk r ≤ 1048576) : M_law_RouteTexts r (· = true) := by
  unfold M_law_RouteTexts
  have fin : ∀ (s : Str) (f : Int), (f = 0 → s = textR r ∧ (∀ x ∈ r, NetW x) ∧ s.length ≤ 2000000) → M_law_RouteTexts_k1 r (· = true) s f false := by
    intro s f hf
    unfold M_law_RouteTexts_k1
    refine cnd_of (fun e => by cases e) (fun _ => cnd_of (fun _ => rfl) (fun e => ?_))
    obtain ⟨h1, h2, h3⟩ := hf (by simpa using e)
    refine S_route_Read ?_
    rw [if_neg (by omega)]
    intro a ha
    rw [h1, read_text h2] at ha
    subst ha
    exact cnd_of (fun _ => cnd_of (fun _ => S_SameRouted_self rfl) (fun e => by simp at e)) (fun e => by simp at e)
  have out : (textOut r).2 = 0 → (textOut r).1 = textR r ∧ (∀ x ∈ r, NetW x) ∧ (textOut r).1.length ≤ 2000000 := by
    unfold textOut
    split
    · rename_i h0
      split
      · intro h; cases h
      · intro _; exact ⟨rfl, h0, by show (textR r).length ≤ 2000000; omega⟩
    · intro h; cases h
  refine S_route_Text hk (S_ref7_Text hk ?_)
  refine cnd_of (fun e => by simp at e) (fun _ => cnd_of (fun e => by simp at e) (fun _ => S_awake ?_))
  exact fin _ _ out
end Go.Proofs.YtdnilnmdbgcmoaaGreatDoor

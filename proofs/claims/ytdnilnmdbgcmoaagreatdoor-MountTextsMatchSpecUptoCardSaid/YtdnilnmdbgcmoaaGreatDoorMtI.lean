/- Bodies and places read as they were written; the law. -/
import Derived.Test.YtdnilnmdbgcmoaaGreatDoorMtH
namespace Go.Proofs.YtdnilnmdbgcmoaaGreatDoor
open Go Go.RowKit Go.Proofs Go.Shelf
set_option linter.unusedVariables false

theorem cut_of {t L r : Str} (ht : t = L ++ 10 :: r) (hL : ∀ b ∈ L, b ≠ 10) : t ≠ [] ∧ cutS t 10 = (L, r, true) := by
  rw [ht]; exact ⟨by simp, cutS_line L r hL⟩
theorem join_mem : ∀ (ws : List Str) (x : Str) (b : UInt8), b ∈ joinS (x :: ws) → b = 32 ∨ ∃ y ∈ x :: ws, b ∈ y := by
  intro ws x b hb
  have hb' : b ∈ x ++ ws.flatMap (fun y => (32 : UInt8) :: y) := hb
  rcases List.mem_append.1 hb' with h | h
  · exact .inr ⟨x, List.mem_cons_self .., h⟩
  · obtain ⟨y, hy, hby⟩ := List.mem_flatMap.1 h
    rcases List.mem_cons.1 hby with h' | h'
    · exact .inl h'
    · exact .inr ⟨y, List.mem_cons_of_mem _ hy, h'⟩
theorem join_ne10 {ws : List Str} {x : Str} (h : ∀ y ∈ x :: ws, isRowS y = true) : ∀ b ∈ joinS (x :: ws), b ≠ 10 := by
  intro b hb
  rcases join_mem ws x b hb with h' | ⟨y, hy, hby⟩
  · rw [h']; decide
  · exact (row_bytes (h y hy) b hby).2
theorem split_join : ∀ (ws : List Str) (x : Str), (∀ y ∈ x :: ws, isRowS y = true) → Lib.split (joinS (x :: ws)) [32] = x :: ws
  | [], x, h => by
    have e : joinS [x] = x := by simp [joinS]
    rw [e]
    exact split_last x (fun b hb => (row_bytes (h x (List.mem_cons_self ..)) b hb).1)
  | y :: r, x, h => by
    have e : joinS (x :: y :: r) = x ++ 32 :: joinS (y :: r) := by simp [joinS]
    rw [e, split_word x _ (fun b hb => (row_bytes (h x (List.mem_cons_self ..)) b hb).1), split_join r y (fun z hz => h z (List.mem_cons_of_mem _ hz))]
theorem sig_itoa {n : Int} (h0 : -1000000000 < n) (h1 : n < 1000000000) : sigOf (Lib.itoa n) = (n, true) := by
  by_cases h : 0 ≤ n
  · obtain ⟨u, rfl⟩ := Int.eq_ofNat_of_zero_le h
    rw [itoa_nat, sigOf_plain ?_]
    · exact numOf_dec (by omega)
    · intro hh
      obtain ⟨d1, d2, _, _⟩ := dec_facts u
      cases hd : Lib.decDigits u with
      | nil => exact d2 hd
      | cons b r =>
        rw [hd] at hh d1
        have hb : b = 45 := by simpa using hh
        rw [List.all_cons, Bool.and_eq_true, hb] at d1
        exact absurd d1.1 (by decide)
  · unfold Lib.itoa
    rw [if_pos (by omega)]
    show (-(numOf (Lib.decDigits n.natAbs)).1, (numOf (Lib.decDigits n.natAbs)).2 && !((numOf (Lib.decDigits n.natAbs)).1 == 0)) = _
    rw [numOf_dec (by omega)]
    have e1 : -((n.natAbs : Nat) : Int) = n := by omega
    have e2 : (((n.natAbs : Nat) : Int) == 0) = false := by rw [beq_eq_false_iff_ne]; omega
    show (-((n.natAbs : Nat) : Int), true && !(((n.natAbs : Nat) : Int) == 0)) = _
    rw [e1, e2]; rfl
theorem body_rows {x : Body} (h : BodyW x) : ∀ y ∈ bodyWords x, isRowS y = true := by
  intro y hy
  unfold bodyWords at hy
  simp only [List.mem_cons, List.not_mem_nil, or_false] at hy
  rcases hy with rfl | rfl | rfl | rfl | rfl | rfl
  · decide
  · exact h.typ.1
  · exact itoa_row (by have := h.w; omega) (by have := h.w; omega)
  · exact itoa_row (by have := h.h; omega) (by have := h.h; omega)
  · exact itoa_row (by have := h.tall; omega) (by have := h.tall; omega)
  · exact h.noz.1
theorem place_rows {x : Place} (h : PlaceW x) : ∀ y ∈ placeWords x, isRowS y = true := by
  intro y hy
  unfold placeWords at hy
  simp only [List.mem_cons, List.not_mem_nil, or_false] at hy
  rcases hy with rfl | rfl | rfl | rfl | rfl | rfl | rfl
  · decide
  · exact h.part.1
  · exact h.typ.1
  · exact itoa_sig_row (by have := h.x; omega) (by have := h.x; omega)
  · exact itoa_sig_row (by have := h.y; omega) (by have := h.y; omega)
  · exact itoa_row (by have := h.q; omega) (by have := h.q; omega)
  · unfold sideS; split <;> decide
theorem read_body {k : Nat} {t : Str} {n : Int} {b1 : List Body} {x : Body} (hx : BodyW x) : readS (k + 1) (bodyLine x ++ t) n b1 [] = readS k t (n + 1) (b1 ++ [x]) [] := by
  have e : bodyLine x ++ t = joinS (bodyWords x) ++ 10 :: t := by unfold bodyLine; simp
  obtain ⟨hne, hc⟩ := cut_of e (join_ne10 (body_rows hx))
  have hs : Lib.split (joinS (bodyWords x)) [32] = [wBody, x.Typ, Lib.itoa x.W, Lib.itoa x.H, Lib.itoa x.Tall, x.Nozzle] := split_join _ _ (body_rows hx)
  conv => lhs; unfold readS
  rw [if_neg hne, hc]
  dsimp only
  rw [hs, lineM_body, numOf_itoa (n := x.W) (by have := hx.w; omega) (by have := hx.w; omega), numOf_itoa (n := x.H) (by have := hx.h; omega) (by have := hx.h; omega), numOf_itoa (n := x.Tall) (by have := hx.tall; omega) (by have := hx.tall; omega), if_pos ⟨hx.typ.1, hx.noz.1, rfl, rfl, rfl⟩]
theorem read_place {k : Nat} {t : Str} {n : Int} {b1 : List Body} {l1 : List Place} {x : Place} (hx : PlaceW x) : readS (k + 1) (placeLine x ++ t) n b1 l1 = readS k t (n + 1) b1 (l1 ++ [x]) := by
  have e : placeLine x ++ t = joinS (placeWords x) ++ 10 :: t := by unfold placeLine; simp
  obtain ⟨hne, hc⟩ := cut_of e (join_ne10 (place_rows hx))
  have hs : Lib.split (joinS (placeWords x)) [32] = [wPlace, x.Part, x.Typ, Lib.itoa x.At.X, Lib.itoa x.At.Y, Lib.itoa x.Quarters, sideS x.Below] := split_join _ _ (place_rows hx)
  have hside : (sideS x.Below = wUp ∨ sideS x.Below = wDown) ∧ (sideS x.Below == wDown) = x.Below := by
    cases x.Below
    · exact ⟨.inl rfl, by decide⟩
    · exact ⟨.inr rfl, by decide⟩
  conv => lhs; unfold readS
  rw [if_neg hne, hc]
  dsimp only
  rw [hs, lineM_place, sig_itoa (n := x.At.X) (by have := hx.x; omega) (by have := hx.x; omega), sig_itoa (n := x.At.Y) (by have := hx.y; omega) (by have := hx.y; omega), numOf_itoa (n := x.Quarters) (by have := hx.q; omega) (by have := hx.q; omega), if_pos ⟨hx.part.1, hx.typ.1, hside.1, rfl, rfl, rfl⟩, hside.2]
theorem read_bodies : ∀ (m : List Body) (k : Nat) (t : Str) (n : Int) (m1 : List Body), (∀ x ∈ m, BodyW x) → readS (m.length + k) (m.flatMap bodyLine ++ t) n m1 [] = readS k t (n + m.length) (m1 ++ m) []
  | [], k, t, n, m1, _ => by simp
  | x :: r, k, t, n, m1, h => by
    have e : (x :: r).length + k = (r.length + k) + 1 := by rw [List.length_cons]; omega
    rw [e, List.flatMap_cons, List.append_assoc, read_body (h x (List.mem_cons_self ..)), read_bodies r k t _ _ (fun y hy => h y (List.mem_cons_of_mem _ hy))]
    congr 1
    · rw [List.length_cons]; omega
    · simp
theorem read_places : ∀ (s : List Place) (k : Nat) (t : Str) (n : Int) (m1 : List Body) (s1 : List Place), (∀ x ∈ s, PlaceW x) → readS (s.length + k) (s.flatMap placeLine ++ t) n m1 s1 = readS k t (n + s.length) m1 (s1 ++ s)
  | [], k, t, n, m1, s1, _ => by simp
  | x :: r, k, t, n, m1, s1, h => by
    have e : (x :: r).length + k = (r.length + k) + 1 := by rw [List.length_cons]; omega
    rw [e, List.flatMap_cons, List.append_assoc, read_place (h x (List.mem_cons_self ..)), read_places r k t _ _ _ (fun y hy => h y (List.mem_cons_of_mem _ hy))]
    congr 1
    · rw [List.length_cons]; omega
    · simp
theorem flatMap_many {α : Type} (f : α → Str) (hf : ∀ x, 1 ≤ (f x).length) : ∀ l : List α, l.length ≤ (l.flatMap f).length
  | [] => by simp
  | x :: r => by
    have := hf x
    have := flatMap_many f hf r
    rw [List.flatMap_cons, List.length_append, List.length_cons]; omega
theorem read_text {b : List Body} {l : List Place} (h : placesFault b l = 0) : readS ((textM b l).length + 1) (textM b l) 1 [] [] = (b, l, 0, 0) := by
  have hp := places_ok h
  have hm := bodiesW hp.bodies
  have hl := placesW hp
  have h1 := flatMap_many bodyLine (fun x => by unfold bodyLine; rw [List.length_append]; simp) b
  have h2 := flatMap_many placeLine (fun x => by unfold placeLine; rw [List.length_append]; simp) l
  have hlen : (textM b l).length = (b.flatMap bodyLine).length + (l.flatMap placeLine).length := by unfold textM; rw [List.length_append]
  obtain ⟨j, hj⟩ : ∃ j, (textM b l).length + 1 = b.length + (l.length + (j + 1)) := ⟨(textM b l).length - b.length - l.length, by omega⟩
  rw [hj]
  have e : textM b l = b.flatMap bodyLine ++ (l.flatMap placeLine ++ []) := by unfold textM; rw [List.append_nil]
  rw [e, read_bodies b _ _ _ _ hm, read_places l _ _ _ _ _ hl]
  unfold readS
  rw [if_pos rfl, List.nil_append, List.nil_append, if_pos h]
theorem parts_small {l : List Place} (h : Bulk.bk l ≤ 1048576) : ∀ p ∈ l, p.Part.length < 4294967281 := fun p hp => by
  have h1 := bulk_mem hp
  have h2 : Bulk.bk p.Part ≤ Bulk.bk p := Nat.le_add_right _ _
  have h3 : p.Part.length + 1 ≤ Bulk.bk p.Part := Nat.le_refl _
  omega
theorem law_MountTexts_upto (b : List Body) (l : List Place) (hb : Fits.fits b) (hl : Fits.fits l) (k1 : Bulk.bk l ≤ 1048576) : M_law_MountTexts b l (· = true) := by
  unfold M_law_MountTexts
  have fin : ∀ (t : Str) (f : Int), (f = 0 → t = textM b l ∧ placesFault b l = 0 ∧ t.length ≤ 300000) → M_law_MountTexts_k1 b l (· = true) t f false := by
    intro t f hf
    unfold M_law_MountTexts_k1
    refine cnd_of (fun e => by cases e) (fun _ => cnd_of (fun _ => rfl) (fun e => ?_))
    obtain ⟨h1, h2, h3⟩ := hf (by simpa using e)
    refine S_mount_Read ?_
    rw [if_neg (by omega)]
    intro a ha
    rw [h1, read_text h2] at ha
    subst ha
    exact cnd_of (fun _ => cnd_of (fun _ => S_equal_body (cnd_of (fun _ => S_equal_place (by simp)) (fun e => by simp at e))) (fun e => by simp at e)) (fun e => by simp at e)
  have out : (textOut b l).2 = 0 → (textOut b l).1 = textM b l ∧ placesFault b l = 0 ∧ (textOut b l).1.length ≤ 300000 := by
    unfold textOut
    split
    · intro h; rename_i h0; exact absurd h h0
    · rename_i h0
      split
      · intro h; cases h
      · intro _; exact ⟨rfl, Decidable.not_not.1 h0, by show (textM b l).length ≤ 300000; omega⟩
  refine S_mount_Text hb hl (S_ref10_Text hb (parts_small k1) ?_)
  refine cnd_of (fun e => by simp at e) (fun _ => cnd_of (fun e => by simp at e) (fun _ => S_awake ?_))
  exact fin _ _ out

end Go.Proofs.YtdnilnmdbgcmoaaGreatDoor

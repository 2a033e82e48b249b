/- Chapter texts of ours, as far as the claim needs them. -/
import Derived.Test.YtihjaehkdgdenaaGreatDoorSearch
namespace Go.Proofs.YtihjaehkdgdenaaGreatDoor
open Go Go.RowKit
set_option linter.unusedVariables false
set_option linter.unusedSectionVars false
set_option linter.unusedSimpArgs false
structure Gr where
  W : Nat
  H : Nat
  L : Nat
  no : Nat → Bool
  step : Int
  via : Int
  turn : Int
  agn : Int
namespace Gr
variable (G : Gr)
def N : Nat := G.W * G.H * G.L
def X (n : Nat) : Nat := n % G.W
def Y (n : Nat) : Nat := n / G.W % G.H
def Z (n : Nat) : Nat := n / G.W / G.H
def num (x y z : Nat) : Nat := (z * G.H + y) * G.W + x
theorem num_self (n : Nat) : G.num (G.X n) (G.Y n) (G.Z n) = n := by
  unfold num X Y Z
  rw [Nat.mul_comm (n / G.W / G.H), Nat.div_add_mod, Nat.mul_comm, Nat.div_add_mod]
theorem X_num {x y z : Nat} (hx : x < G.W) : G.X (G.num x y z) = x := by
  unfold X num; rw [Nat.mul_comm, Nat.mul_add_mod]; exact Nat.mod_eq_of_lt hx
theorem YZ_num {x y z : Nat} (hx : x < G.W) : G.num x y z / G.W = z * G.H + y := by
  unfold num; rw [Nat.mul_comm, Nat.mul_add_div (by omega), Nat.div_eq_of_lt hx, Nat.add_zero]
theorem Y_num {x y z : Nat} (hx : x < G.W) (hy : y < G.H) : G.Y (G.num x y z) = y := by
  unfold Y; rw [YZ_num G hx, Nat.mul_comm, Nat.mul_add_mod]; exact Nat.mod_eq_of_lt hy
theorem Z_num {x y z : Nat} (hx : x < G.W) (hy : y < G.H) : G.Z (G.num x y z) = z := by
  unfold Z; rw [YZ_num G hx, Nat.mul_comm, Nat.mul_add_div (by omega), Nat.div_eq_of_lt hy, Nat.add_zero]
theorem num_lt {x y z : Nat} (hx : x < G.W) (hy : y < G.H) (hz : z < G.L) : G.num x y z < G.N := by
  unfold num N
  have h1 : z * G.H + y + 1 ≤ G.L * G.H := by
    have : (z + 1) * G.H ≤ G.L * G.H := Nat.mul_le_mul_right _ hz
    rw [Nat.add_mul] at this; omega
  have h2 : (z * G.H + y + 1) * G.W ≤ G.L * G.H * G.W := Nat.mul_le_mul_right _ h1
  rw [Nat.add_mul] at h2
  have h3 : G.L * G.H * G.W = G.W * G.H * G.L := by rw [Nat.mul_comm (G.L * G.H), Nat.mul_comm G.L, Nat.mul_assoc]
  omega
theorem X_lt {n : Nat} (h : n < G.N) : G.X n < G.W := Nat.mod_lt _ (by
  rcases Nat.eq_zero_or_pos G.W with h0 | h0
  · unfold N at h; rw [h0] at h; simp at h
  · exact h0)
theorem Y_lt {n : Nat} (h : n < G.N) : G.Y n < G.H := Nat.mod_lt _ (by
  rcases Nat.eq_zero_or_pos G.H with h0 | h0
  · unfold N at h; rw [h0] at h; simp at h
  · exact h0)
theorem Z_lt {n : Nat} (h : n < G.N) : G.Z n < G.L := by
  unfold Z
  rw [Nat.div_div_eq_div_mul]
  have : 0 < G.W * G.H := by
    rcases Nat.eq_zero_or_pos (G.W * G.H) with h0 | h0
    · unfold N at h; rw [h0] at h; simp at h
    · exact h0
  exact (Nat.div_lt_iff_lt_mul this).2 (by unfold N at h; rw [Nat.mul_comm]; exact h)
def Nb (n m : Nat) (al : Int) : Prop := n < G.N ∧ m < G.N ∧
  ((al = 1 ∧ G.Y n = G.Y m ∧ G.Z n = G.Z m ∧ (G.X m = G.X n + 1 ∨ G.X n = G.X m + 1)) ∨
   (al = 2 ∧ G.X n = G.X m ∧ G.Z n = G.Z m ∧ (G.Y m = G.Y n + 1 ∨ G.Y n = G.Y m + 1)) ∨
   (al = 3 ∧ G.X n = G.X m ∧ G.Y n = G.Y m ∧ (G.Z m = G.Z n + 1 ∨ G.Z n = G.Z m + 1)))
theorem Nb.symm {n m : Nat} {al : Int} (h : G.Nb n m al) : G.Nb m n al := by
  unfold Nb at *; omega
def base (n : Nat) (al : Int) : Int := if al = 3 then G.via else G.step + (if (decide (G.Z n % 2 = 0) == decide (al = 2)) = true then G.agn else 0)
theorem Nb.base {n m : Nat} {al : Int} (h : G.Nb n m al) : G.base n al = G.base m al := by
  unfold Gr.base
  unfold Nb at h
  split
  · rfl
  · have : G.Z n = G.Z m := by omega
    rw [this]
def tn (last al : Int) : Int := if last ≠ 0 ∧ last ≠ al then G.turn else 0
def trn : Int → List Int → Int
  | _, [] => 0
  | last, al :: r => G.tn last al + trn al r
def lst : Int → List Int → Int
  | last, [] => last
  | _, al :: r => lst al r
theorem lst_append (a : Int) (L M : List Int) : lst a (L ++ M) = lst (lst a L) M := by
  induction L generalizing a with
  | nil => rfl
  | cons x r ih => exact ih x
theorem trn_append (a : Int) (L M : List Int) : G.trn a (L ++ M) = G.trn a L + G.trn (lst a L) M := by
  induction L generalizing a with
  | nil => simp [trn, lst]
  | cons x r ih => simp only [List.cons_append, trn, lst, ih]; omega
theorem tn_comm {a b : Int} (ha : a ≠ 0) (hb : b ≠ 0) : G.tn a b = G.tn b a := by
  unfold tn; by_cases h : a = b
  · subst h; rfl
  · rw [if_pos ⟨ha, h⟩, if_pos ⟨hb, fun e => h e.symm⟩]
theorem tn_zero (a : Int) : G.tn 0 a = 0 := by unfold tn; rw [if_neg (by simp)]
theorem trn_reverse (L : List Int) (h : ∀ a ∈ L, a ≠ 0) : G.trn 0 L.reverse = G.trn 0 L := by
  have key : ∀ (L : List Int) (x : Int), x ≠ 0 → (∀ a ∈ L, a ≠ 0) → G.trn 0 (L.reverse ++ [x]) = G.trn x L := by
    intro L
    induction L with
    | nil => intro x _ _; simp [trn, tn_zero]
    | cons y r ih =>
      intro x hx hL
      have hy := hL y List.mem_cons_self
      rw [List.reverse_cons, trn_append, ih y hy (fun a ha => hL a (List.mem_cons_of_mem _ ha)), lst_append]
      simp only [trn, lst]
      rw [G.tn_comm hy hx]; omega
  cases L with
  | nil => rfl
  | cons x r =>
    rw [List.reverse_cons, key r x (h x List.mem_cons_self) (fun a ha => h a (List.mem_cons_of_mem _ ha))]
    simp [trn, tn_zero]
inductive Pth : Nat → Nat → Int → Nat → List Int → Prop
  | nil {a : Nat} : a < G.N → G.no a = false → Pth a a 0 0 []
  | snoc {a b m : Nat} {c : Int} {n : Nat} {L : List Int} {al : Int} : Pth a b c n L → G.Nb b m al → G.no m = false → Pth a m (c + G.base b al) (n + 1) (if al = 3 then L else L ++ [al])
theorem Pth.cons {a b : Nat} {c : Int} {n : Nat} {L : List Int} (h : G.Pth a b c n L) {z : Nat} {al : Int} (hz : G.Nb z a al) (hn : G.no z = false) : G.Pth z b (c + G.base z al) (n + 1) (if al = 3 then L else al :: L) := by
  induction h with
  | nil ha h0 =>
    have := (Pth.nil hz.1 hn).snoc hz h0
    simp only [List.nil_append] at this ⊢
    exact this
  | @snoc b m c n L be h hb h0 ih =>
    have := ih.snoc hb h0
    rw [show c + G.base b be + G.base z al = c + G.base z al + G.base b be by omega]
    by_cases h1 : al = 3 <;> by_cases h2 : be = 3 <;> simp only [h1, h2, if_true, if_false, List.cons_append] at this ⊢ <;> exact this
theorem Pth.ends {a b : Nat} {c : Int} {n : Nat} {L : List Int} (h : G.Pth a b c n L) : a < G.N ∧ b < G.N ∧ G.no a = false ∧ G.no b = false := by
  induction h with
  | nil ha h0 => exact ⟨ha, ha, h0, h0⟩
  | snoc h hb h0 ih => exact ⟨ih.1, hb.2.1, ih.2.2.1, h0⟩
theorem Pth.axes {a b : Nat} {c : Int} {n : Nat} {L : List Int} (h : G.Pth a b c n L) : ∀ x ∈ L, x = 1 ∨ x = 2 := by
  induction h with
  | nil => intro x hx; cases hx
  | @snoc b m c n L al h hb h0 ih =>
    intro x hx
    split at hx
    · exact ih x hx
    · rcases List.mem_append.1 hx with h1 | h1
      · exact ih x h1
      · simp at h1; subst h1; unfold Nb at hb; omega
theorem Pth.rev {a b : Nat} {c : Int} {n : Nat} {L : List Int} (h : G.Pth a b c n L) : G.Pth b a c n L.reverse := by
  induction h with
  | nil ha h0 => exact .nil ha h0
  | @snoc b m c n L al h hb h0 ih =>
    have := Pth.cons G ih (Nb.symm G hb) h0
    rw [← Nb.base G hb] at this
    by_cases h1 : al = 3
    · simp only [h1, if_true] at this ⊢; exact this
    · simp only [h1, if_false, List.reverse_append, List.reverse_cons, List.reverse_nil, List.nil_append, List.cons_append] at this ⊢; exact this
end Gr
namespace Gr
variable (G : Gr)
theorem num_x (x y z : Nat) : G.num (x + 1) y z = G.num x y z + 1 := by unfold num; omega
theorem num_y (x y z : Nat) : G.num x (y + 1) z = G.num x y z + G.W := by
  unfold num; rw [← Nat.add_assoc, Nat.add_mul (z * G.H + y) 1, Nat.one_mul]; omega
theorem num_z (x y z : Nat) : G.num x y (z + 1) = G.num x y z + G.W * G.H := by
  unfold num; rw [Nat.add_mul z 1, Nat.one_mul, show z * G.H + G.H + y = z * G.H + y + G.H by omega, Nat.add_mul (z * G.H + y) G.H, Nat.mul_comm G.H]; omega
def nb1 (c : Bool) (m : Nat) (al : Int) : List (Nat × Int) := if c = true ∧ G.no m = false then [(m, al)] else []
theorem mem_nb1 {c : Bool} {m m' : Nat} {al al' : Int} : (m', al') ∈ G.nb1 c m al ↔ c = true ∧ G.no m = false ∧ m' = m ∧ al' = al := by
  unfold nb1; split
  · rename_i h; simp [h]
  · rename_i h; simp only [List.not_mem_nil, false_iff]; rintro ⟨h1, h2, _⟩; exact h ⟨h1, h2⟩
def nbrs (n : Nat) : List (Nat × Int) :=
  G.nb1 (decide (0 < G.Z n)) (n - G.W * G.H) 3 ++ (G.nb1 (decide (0 < G.Y n)) (n - G.W) 2 ++ (G.nb1 (decide (0 < G.X n)) (n - 1) 1 ++ (G.nb1 (decide (G.X n + 1 < G.W)) (n + 1) 1 ++ (G.nb1 (decide (G.Y n + 1 < G.H)) (n + G.W) 2 ++ G.nb1 (decide (G.Z n + 1 < G.L)) (n + G.W * G.H) 3))))
theorem nb_of {n m : Nat} (hn : n < G.N) {x y z : Nat} (hx : x < G.W) (hy : y < G.H) (hz : z < G.L) (hm : m = G.num x y z) : m < G.N ∧ G.X m = x ∧ G.Y m = y ∧ G.Z m = z := by
  subst hm; exact ⟨G.num_lt hx hy hz, G.X_num hx, G.Y_num hx hy, G.Z_num hx hy⟩
theorem mem_nbrs {n m : Nat} {al : Int} (hn : n < G.N) : (m, al) ∈ G.nbrs n ↔ G.Nb n m al ∧ G.no m = false := by
  have hx := G.X_lt hn
  have hy := G.Y_lt hn
  have hz := G.Z_lt hn
  have hs := G.num_self n
  unfold nbrs
  simp only [List.mem_append, mem_nb1, decide_eq_true_eq]
  constructor
  · rintro (⟨hc, h0, rfl, rfl⟩ | ⟨hc, h0, rfl, rfl⟩ | ⟨hc, h0, rfl, rfl⟩ | ⟨hc, h0, rfl, rfl⟩ | ⟨hc, h0, rfl, rfl⟩ | ⟨hc, h0, rfl, rfl⟩) <;> refine ⟨?_, h0⟩
    · obtain ⟨k, hk⟩ : ∃ k, G.Z n = k + 1 := ⟨G.Z n - 1, by omega⟩
      rw [hk, num_z] at hs
      obtain ⟨h1, h2, h3, h4⟩ := G.nb_of (m := n - G.W * G.H) hn hx hy (z := k) (by omega) (by omega)
      exact ⟨hn, h1, .inr (.inr ⟨rfl, h2.symm, h3.symm, .inr (by omega)⟩)⟩
    · obtain ⟨k, hk⟩ : ∃ k, G.Y n = k + 1 := ⟨G.Y n - 1, by omega⟩
      rw [hk, num_y] at hs
      obtain ⟨h1, h2, h3, h4⟩ := G.nb_of (m := n - G.W) hn hx (y := k) (by omega) hz (by omega)
      exact ⟨hn, h1, .inr (.inl ⟨rfl, h2.symm, h4.symm, .inr (by omega)⟩)⟩
    · obtain ⟨k, hk⟩ : ∃ k, G.X n = k + 1 := ⟨G.X n - 1, by omega⟩
      rw [hk, num_x] at hs
      obtain ⟨h1, h2, h3, h4⟩ := G.nb_of (m := n - 1) hn (x := k) (by omega) hy hz (by omega)
      exact ⟨hn, h1, .inl ⟨rfl, h3.symm, h4.symm, .inr (by omega)⟩⟩
    · obtain ⟨h1, h2, h3, h4⟩ := G.nb_of (m := n + 1) hn hc hy hz (by rw [num_x, hs])
      exact ⟨hn, h1, .inl ⟨rfl, h3.symm, h4.symm, .inl h2⟩⟩
    · obtain ⟨h1, h2, h3, h4⟩ := G.nb_of (m := n + G.W) hn hx hc hz (by rw [num_y, hs])
      exact ⟨hn, h1, .inr (.inl ⟨rfl, h2.symm, h4.symm, .inl h3⟩)⟩
    · obtain ⟨h1, h2, h3, h4⟩ := G.nb_of (m := n + G.W * G.H) hn hx hy hc (by rw [num_z, hs])
      exact ⟨hn, h1, .inr (.inr ⟨rfl, h2.symm, h3.symm, .inl h4⟩)⟩
  · rintro ⟨⟨_, hm, h⟩, h0⟩
    have hxm := G.X_lt hm
    have hym := G.Y_lt hm
    have hzm := G.Z_lt hm
    have hsm := G.num_self m
    rcases h with ⟨rfl, e1, e2, e3 | e3⟩ | ⟨rfl, e1, e2, e3 | e3⟩ | ⟨rfl, e1, e2, e3 | e3⟩
    · have e : m = n + 1 := by rw [← hsm, e3, ← e1, ← e2, num_x, hs]
      subst e; exact .inr (.inr (.inr (.inl ⟨by omega, h0, rfl, rfl⟩)))
    · have e : n = m + 1 := by rw [← hs, e3, e1, e2, num_x, hsm]
      have e' : m = n - 1 := by omega
      subst e'; exact .inr (.inr (.inl ⟨by omega, h0, rfl, rfl⟩))
    · have e : m = n + G.W := by rw [← hsm, e3, ← e1, ← e2, num_y, hs]
      subst e; exact .inr (.inr (.inr (.inr (.inl ⟨by omega, h0, rfl, rfl⟩))))
    · have e : n = m + G.W := by rw [← hs, e3, e1, e2, num_y, hsm]
      have e' : m = n - G.W := by omega
      subst e'; exact .inr (.inl ⟨by omega, h0, rfl, rfl⟩)
    · have e : m = n + G.W * G.H := by rw [← hsm, e3, ← e1, ← e2, num_z, hs]
      subst e; exact .inr (.inr (.inr (.inr (.inr ⟨by omega, h0, rfl, rfl⟩))))
    · have e : n = m + G.W * G.H := by rw [← hs, e3, e1, e2, num_z, hsm]
      have e' : m = n - G.W * G.H := by omega
      subst e'; exact .inl ⟨by omega, h0, rfl, rfl⟩
def el (back : Bool) (s : Nat) (e : Nat × Int) : List (Nat × Int) :=
  if e.2 = 3 then [(3 * e.1 + s % 3, G.via)]
  else if back = true then (if e.2 = ((s % 3 : Nat) : Int) then [(3 * e.1, G.base (s / 3) e.2 + G.tn 0 e.2), (3 * e.1 + 1, G.base (s / 3) e.2 + G.tn 1 e.2), (3 * e.1 + 2, G.base (s / 3) e.2 + G.tn 2 e.2)] else [])
  else [(3 * e.1 + e.2.toNat, G.base (s / 3) e.2 + G.tn ((s % 3 : Nat) : Int) e.2)]
def E (back : Bool) (s : Nat) : List (Nat × Int) := (G.nbrs (s / 3)).flatMap (G.el back s)
structure Ok : Prop where
  step : 1 ≤ G.step ∧ G.step ≤ 1000
  via : 1 ≤ G.via ∧ G.via ≤ 1000
  turn : 0 ≤ G.turn ∧ G.turn ≤ 1000
  agn : 0 ≤ G.agn ∧ G.agn ≤ 1000
theorem nbrs_len (n : Nat) : (G.nbrs n).length ≤ 6 := by
  have h : ∀ c m al, (G.nb1 c m al).length ≤ 1 := fun c m al => by unfold nb1; split <;> simp
  unfold nbrs
  simp only [List.length_append]
  have := h (decide (0 < G.Z n)) (n - G.W * G.H) 3
  have := h (decide (0 < G.Y n)) (n - G.W) 2
  have := h (decide (0 < G.X n)) (n - 1) 1
  have := h (decide (G.X n + 1 < G.W)) (n + 1) 1
  have := h (decide (G.Y n + 1 < G.H)) (n + G.W) 2
  have := h (decide (G.Z n + 1 < G.L)) (n + G.W * G.H) 3
  omega
theorem el_len (back : Bool) (s : Nat) (e : Nat × Int) : (G.el back s e).length ≤ 3 := by
  unfold el; split
  · simp
  · split
    · split <;> simp
    · simp
variable {G}
theorem Ok.base (h : G.Ok) (n : Nat) (al : Int) : 1 ≤ G.base n al ∧ G.base n al ≤ 2000 := by
  have := h.step; have := h.via; have := h.agn
  unfold Gr.base; split
  · omega
  · split <;> omega
theorem Ok.tn (h : G.Ok) (a b : Int) : 0 ≤ G.tn a b ∧ G.tn a b ≤ 1000 := by
  have := h.turn
  unfold Gr.tn; split <;> omega
theorem flatMap_len {α β : Type} (g : α → List β) (k : Nat) : ∀ l : List α, (∀ x ∈ l, (g x).length ≤ k) → (l.flatMap g).length ≤ k * l.length
  | [], _ => by simp
  | x :: r, h => by
    have := flatMap_len g k r (fun y hy => h y (List.mem_cons_of_mem _ hy))
    have := h x List.mem_cons_self
    simp only [List.flatMap_cons, List.length_append, List.length_cons, Nat.mul_add]
    omega
theorem Ok.good (h : G.Ok) (back : Bool) : GoodE (G.E back) (3 * G.N) 3000 := by
  intro s hs
  constructor
  · have := flatMap_len (G.el back s) 3 (G.nbrs (s / 3)) (fun e _ => G.el_len back s e)
    have := G.nbrs_len (s / 3)
    unfold E; omega
  · intro e he
    obtain ⟨⟨m, al⟩, hm, he⟩ := List.mem_flatMap.1 he
    have hm := ((G.mem_nbrs (by omega)).1 hm).1
    have hmN : m < G.N := hm.2.1
    have hal : al = 1 ∨ al = 2 ∨ al = 3 := by have := hm.2.2; omega
    have := h.via
    have hb := h.base (s / 3) al
    have t0 := h.tn 0 al
    have t1 := h.tn 1 al
    have t2 := h.tn 2 al
    have t3 := h.tn ((s % 3 : Nat) : Int) al
    unfold el at he
    simp only at he
    split at he
    · simp at he; subst he; exact ⟨by simp only; omega, by simp only; omega, by simp only; omega⟩
    · split at he
      · split at he
        · simp only [List.mem_cons, List.not_mem_nil, or_false] at he
          rcases he with rfl | rfl | rfl <;> exact ⟨by simp only; omega, by simp only; omega, by simp only; omega⟩
        · cases he
      · simp only [List.mem_cons, List.not_mem_nil, or_false] at he
        subst he; exact ⟨by simp only; omega, by simp only; omega, by simp only; omega⟩
end Gr
end Go.Proofs.YtihjaehkdgdenaaGreatDoor

/- Chapter texts of ours, as far as the claim needs them. -/
import Derived.Test.YtfjcgoiedlimdaaGreatDoorRtD
namespace Go.Proofs.YtfjcgoiedlimdaaGreatDoor
open Go Go.RowKit
set_option linter.unusedVariables false
set_option linter.unusedSectionVars false
set_option linter.unusedSimpArgs false
def kB : Int := 1048576
inductive Wk (E : Nat → List (Nat × Int)) (S : List Nat) : Nat → Int → Nat → Prop
  | start {s : Nat} : s ∈ S → Wk E S s 0 0
  | step {s : Nat} {c : Int} {n : Nat} {t : Nat} {k : Int} : Wk E S s c n → (t, k) ∈ E s → Wk E S t (c + k) (n + 1)
def cntF (out : List Int) : Nat := out.countP (fun d => decide (0 ≤ d))
theorem OG (out : List Int) : cntF out ≤ out.length := List.countP_le_length
theorem Oc {out : List Int} {t : Nat} {d v : Int} (h : out[t]? = some d) (hv : 0 ≤ v) : cntF (out.set t v) = cntF out + (if 0 ≤ d then 0 else 1) := by
  unfold cntF
  induction out generalizing t with
  | nil => simp at h
  | cons x r ih =>
    cases t with
    | zero =>
      simp at h; subst h
      simp only [List.set_cons_zero, List.countP_cons, decide_eq_true_eq, hv, if_true]
      split <;> simp
    | succ t =>
      simp at h
      simp only [List.set_cons_succ, List.countP_cons, ih h]
      omega
theorem jT : ∀ (N : Nat) (D : List Nat), D.Nodup → (∀ s ∈ D, s < N) → D.length ≤ N
  | 0, D, _, h => by
    cases D with
    | nil => simp
    | cons x r => exact absurd (h x List.mem_cons_self) (by omega)
  | N + 1, D, hn, h => by
    have h1 : (D.erase N).length ≤ N := jT N (D.erase N) (hn.erase N) (fun s hs => by
      have h2 := h s (List.mem_of_mem_erase hs)
      have h3 : s ≠ N := fun e => by subst e; exact (List.Nodup.not_mem_erase hn) hs
      omega)
    have := List.length_erase (a := N) (l := D)
    split at this <;> omega
structure xW (E : Nat → List (Nat × Int)) (S : List Nat) (N : Nat) (K : Int) (A : Nat → Prop) (D : List Nat) (out : List Int) (q : List (Int × Nat)) : Prop where
  len : out.length = N
  low : ∀ (s : Nat) d, out[s]? = some d → (-1 : Int) ≤ d
  lab : ∀ (s : Nat) d, out[s]? = some d → 0 ≤ d → ∃ c n, Wk E S s c n ∧ d = c * kB + n ∧ 0 ≤ c ∧ d + (K * kB + 1) ≤ cntF out * (K * kB + 1)
  st : ∀ s ∈ S, ∃ d, out[s]? = some d ∧ 0 ≤ d ∧ d ≤ 0
  qin : ∀ x ∈ q, ∃ d, out[x.2]? = some d ∧ 0 ≤ d ∧ d ≤ x.1
  rel : ∀ (s : Nat) d, out[s]? = some d → 0 ≤ d → (d, s) ∈ q ∨ A s ∨ ∀ e ∈ E s, ∃ d', out[e.1]? = some d' ∧ 0 ≤ d' ∧ d' ≤ d + e.2 * kB + 1
  nd : q.Nodup
  dnd : D.Nodup
  dn : ∀ s ∈ D, ∃ d, out[s]? = some d ∧ 0 ≤ d ∧ ∀ x ∈ q, d ≤ x.1 ∧ (x.2 = s → d < x.1)
structure RInv (E : Nat → List (Nat × Int)) (S : List Nat) (N : Nat) (K : Int) (s0 : Nat) (d0 : Int) (L R : List (Nat × Int)) (D : List Nat) (out : List Int) (q : List (Int × Nat)) : Prop where
  base : xW E S N K (· = s0) D out q
  at0 : out[s0]? = some d0
  pos0 : 0 ≤ d0
  all : E s0 = L ++ R
  done : ∀ e ∈ L, ∃ d', out[e.1]? = some d' ∧ 0 ≤ d' ∧ d' ≤ d0 + e.2 * kB + 1
  dle : ∀ s ∈ D, ∃ d, out[s]? = some d ∧ 0 ≤ d ∧ d ≤ d0
def Ih (E : Nat → List (Nat × Int)) (N : Nat) (K : Int) : Prop := ∀ s, s < N → (E s).length ≤ 18 ∧ ∀ e ∈ E s, e.1 < N ∧ 0 ≤ e.2 ∧ e.2 ≤ K
section
variable {E : Nat → List (Nat × Int)} {S : List Nat} {N : Nat} {K : Int} {A : Nat → Prop} {D : List Nat} {out : List Int} {q q' : List (Int × Nat)}
theorem xW.perm (h : xW E S N K A D out q) (hp : q'.Perm q) : xW E S N K A D out q' :=
  ⟨h.len, h.low, h.lab, h.st, fun x hx => h.qin x (hp.mem_iff.1 hx), fun s d h1 h2 => (h.rel s d h1 h2).imp (fun h => hp.mem_iff.2 h) id, hp.nodup_iff.2 h.nd, h.dnd,
    fun s hs => let ⟨d, h1, h2, h3⟩ := h.dn s hs; ⟨d, h1, h2, fun x hx => h3 x (hp.mem_iff.1 hx)⟩⟩
theorem RInv.perm {s0 : Nat} {d0 : Int} {L R : List (Nat × Int)} (h : RInv E S N K s0 d0 L R D out q) (hp : q'.Perm q) : RInv E S N K s0 d0 L R D out q' :=
  ⟨h.base.perm hp, h.at0, h.pos0, h.all, h.done, h.dle⟩
theorem xW.QH (h : xW E S N K A D out q) : D.length ≤ N := jT N D h.dnd (fun s hs => by
  obtain ⟨d, h1, _⟩ := h.dn s hs; rw [← h.len]; exact (List.getElem?_eq_some_iff.1 h1).1)
theorem xW.skip {x : Int × Nat} (h : xW E S N K A D out (x :: q)) {d : Int} (hd : out[x.2]? = some d) (hx : d < x.1) : xW E S N K A D out q :=
  ⟨h.len, h.low, h.lab, h.st, fun y hy => h.qin y (List.mem_cons_of_mem _ hy), fun s e h1 h2 => by
    rcases h.rel s e h1 h2 with h3 | h3
    · rcases List.mem_cons.1 h3 with h4 | h4
      · subst h4; simp only at hd hx; rw [h1] at hd; injection hd with hd; omega
      · exact .inl h4
    · exact .inr h3, (List.nodup_cons.1 h.nd).2, h.dnd, fun s hs => let ⟨d, h1, h2, h3⟩ := h.dn s hs; ⟨d, h1, h2, fun x hx => h3 x (List.mem_cons_of_mem _ hx)⟩⟩
theorem xW.open_ {x : Int × Nat} (h : xW E S N K (fun _ => False) D out (x :: q)) (hmin : ∀ y ∈ q, x.1 ≤ y.1) {d : Int} (hd : out[x.2]? = some d) (hx : ¬ d < x.1) : RInv E S N K x.2 x.1 [] (E x.2) (x.2 :: D) out q ∧ D.length < N := by
  obtain ⟨d', h1, h2, h3⟩ := h.qin x List.mem_cons_self
  rw [hd] at h1; injection h1 with h1; subst h1
  obtain rfl : d = x.1 := by omega
  have hnd := List.nodup_cons.1 h.nd
  have hnot : x.2 ∉ D := fun hm => by
    obtain ⟨e, h4, h5, h6⟩ := h.dn _ hm
    have := (h6 x List.mem_cons_self).2 rfl
    rw [hd] at h4; injection h4 with h4; omega
  have hb : xW E S N K (· = x.2) (x.2 :: D) out q := by
    refine ⟨h.len, h.low, h.lab, h.st, fun y hy => h.qin y (List.mem_cons_of_mem _ hy), fun s e h4 h5 => ?_, hnd.2, List.nodup_cons.2 ⟨hnot, h.dnd⟩, fun s hs => ?_⟩
    · rcases h.rel s e h4 h5 with h6 | h6 | h6
      · rcases List.mem_cons.1 h6 with h7 | h7
        · exact .inr (.inl (by rw [← h7]))
        · exact .inl h7
      · exact h6.elim
      · exact .inr (.inr h6)
    · rcases List.mem_cons.1 hs with hs | hs
      · subst hs
        refine ⟨x.1, hd, h2, fun y hy => ⟨hmin y hy, fun e => ?_⟩⟩
        have h8 := hmin y hy
        rcases Int.lt_or_eq_of_le h8 with h9 | h9
        · exact h9
        · exact absurd (show x ∈ q by rw [show x = y from Prod.ext h9 e.symm]; exact hy) hnd.1
      · obtain ⟨e, h4, h5, h6⟩ := h.dn s hs
        exact ⟨e, h4, h5, fun y hy => h6 y (List.mem_cons_of_mem _ hy)⟩
  refine ⟨⟨hb, hd, h2, by simp, fun e he => (by cases he), fun s hs => ?_⟩, by have := hb.QH; simp only [List.length_cons] at this; omega⟩
  rcases List.mem_cons.1 hs with hs | hs
  · subst hs; exact ⟨x.1, hd, h2, Int.le_refl _⟩
  · obtain ⟨e, h4, h5, h6⟩ := h.dn s hs
    exact ⟨e, h4, h5, (h6 x List.mem_cons_self).1⟩
theorem RInv.close {s0 : Nat} {d0 : Int} {L : List (Nat × Int)} (h : RInv E S N K s0 d0 L [] D out q) : xW E S N K (fun _ => False) D out q :=
  ⟨h.base.len, h.base.low, h.base.lab, h.base.st, h.base.qin, fun s d h1 h2 => by
    rcases h.base.rel s d h1 h2 with h3 | h3 | h3
    · exact .inl h3
    · subst h3; refine .inr (.inr ?_); have := h.at0; rw [h1] at this; injection this with this; subst this
      have ha := h.all; rw [List.append_nil] at ha; rw [ha]; exact h.done
    · exact .inr (.inr h3), h.base.nd, h.base.dnd, h.base.dn⟩
theorem RInv.keep {s0 : Nat} {d0 : Int} {L R : List (Nat × Int)} {t : Nat} {k d : Int} (h : RInv E S N K s0 d0 L ((t, k) :: R) D out q) (ht : out[t]? = some d) (h0 : ¬ d < 0) (h1 : ¬ d0 + k * kB + 1 < d) : RInv E S N K s0 d0 (L ++ [(t, k)]) R D out q :=
  ⟨h.base, h.at0, h.pos0, by rw [h.all]; simp, fun e he => by
    rcases List.mem_append.1 he with he | he
    · exact h.done e he
    · simp at he; subst he; exact ⟨d, ht, by omega, by simp only; omega⟩, h.dle⟩
theorem RInv.less {s0 : Nat} {d0 : Int} {L R : List (Nat × Int)} {t : Nat} {k d : Int} (h : RInv E S N K s0 d0 L ((t, k) :: R) D out q) (hE : Ih E N K) (hK : 0 ≤ K) (ht : out[t]? = some d) (hl : d < 0 ∨ d0 + k * kB + 1 < d) :
    RInv E S N K s0 d0 (L ++ [(t, k)]) R D (out.set t (d0 + k * kB + 1)) ((d0 + k * kB + 1, t) :: q) := by
  have hkB : kB = 1048576 := rfl
  have hp0 := h.pos0
  have he : (t, k) ∈ E s0 := by rw [h.all]; simp
  have hs0 : s0 < N := by rw [← h.base.len]; exact (List.getElem?_eq_some_iff.1 h.at0).1
  obtain ⟨_, hk, hk2⟩ := (hE s0 hs0).2 _ he
  simp only at hk hk2
  have hv : 0 ≤ d0 + k * kB + 1 := by rw [hkB]; omega
  have hgt : d0 < d0 + k * kB + 1 := by rw [hkB]; omega
  have hlt := (List.getElem?_eq_some_iff.1 ht).1
  have hne : t ≠ s0 := by
    rintro rfl
    have := h.at0; rw [ht] at this; injection this with this; subst this
    rcases hl with hl | hl <;> omega
  have hnD : t ∉ D := fun hm => by
    obtain ⟨e, h4, h5, h6⟩ := h.dle t hm
    rw [ht] at h4; injection h4 with h4; subst h4
    rcases hl with hl | hl <;> omega
  have hget : ∀ s, (out.set t (d0 + k * kB + 1))[s]? = if t = s then some (d0 + k * kB + 1) else out[s]? := fun s => by
    rw [List.getElem?_set]; split
    · rename_i e; subst e; simp [hlt]
    · rfl
  have hmono : ∀ (s : Nat) (e : Int), out[s]? = some e → 0 ≤ e → ∃ e', (out.set t (d0 + k * kB + 1))[s]? = some e' ∧ 0 ≤ e' ∧ e' ≤ e := fun s e h1 h2 => by
    rw [hget]; split
    · rename_i e3; subst e3; rw [ht] at h1; injection h1 with h1; subst h1
      exact ⟨_, rfl, hv, by rcases hl with hl | hl <;> omega⟩
    · exact ⟨e, h1, h2, Int.le_refl _⟩
  have hcnt := Oc ht hv
  obtain ⟨c0, n0, w0, e0, p0, m0⟩ := h.base.lab s0 d0 h.at0 h.pos0
  have hW : 0 ≤ K * kB + 1 := by rw [hkB]; omega
  have hkW : k * kB + 1 ≤ K * kB + 1 := by rw [hkB]; omega
  generalize hWe : K * kB + 1 = W at *
  refine ⟨⟨by rw [List.length_set]; exact h.base.len, fun s e h1 => ?_, fun s e h1 h2 => ?_, fun s hs => ?_, fun x hx => ?_, fun s e h1 h2 => ?_, ?_, h.base.dnd, fun s hs => ?_⟩, ?_, h.pos0, by rw [h.all]; simp, fun e he' => ?_, fun s hs => ?_⟩
  · rw [hget] at h1; split at h1
    · injection h1 with h1; omega
    · exact h.base.low s e h1
  · rw [hget] at h1; split at h1
    · rename_i e3; subst e3; injection h1 with h1; subst h1
      refine ⟨c0 + k, n0 + 1, w0.step he, by rw [e0, Int.add_mul]; push_cast; omega, by omega, ?_⟩
      rw [hWe, hcnt]
      by_cases hd0 : 0 ≤ d
      · rw [if_pos hd0]
        obtain ⟨_, _, _, _, _, b⟩ := h.base.lab t d ht hd0
        rw [hWe] at b
        simp only [Nat.add_zero]
        omega
      · rw [if_neg hd0, show ((cntF out + 1 : Nat) : Int) = (cntF out : Int) + 1 by omega, Int.add_mul]; omega
    · obtain ⟨c, n, w, e1, p1, b1⟩ := h.base.lab s e h1 h2
      rw [hWe] at b1
      refine ⟨c, n, w, e1, p1, ?_⟩
      rw [hWe, hcnt]
      split
      · exact b1
      · rw [show ((cntF out + 1 : Nat) : Int) = (cntF out : Int) + 1 by omega, Int.add_mul]; omega
  · obtain ⟨e, h1, h2, h3⟩ := h.base.st s hs
    obtain ⟨e', h4, h5, h6⟩ := hmono s e h1 h2
    exact ⟨e', h4, h5, by omega⟩
  · rcases List.mem_cons.1 hx with hx | hx
    · subst hx; exact ⟨_, by rw [hget, if_pos rfl], hv, Int.le_refl _⟩
    · obtain ⟨e, h1, h2, h3⟩ := h.base.qin x hx
      obtain ⟨e', h4, h5, h6⟩ := hmono _ e h1 h2
      exact ⟨e', h4, h5, by omega⟩
  · rw [hget] at h1; split at h1
    · rename_i e3; subst e3; injection h1 with h1; subst h1; exact .inl List.mem_cons_self
    · rcases h.base.rel s e h1 h2 with h3 | h3 | h3
      · exact .inl (List.mem_cons_of_mem _ h3)
      · exact .inr (.inl h3)
      · refine .inr (.inr fun f hf => ?_)
        obtain ⟨e1, h4, h5, h6⟩ := h3 f hf
        obtain ⟨e2, h7, h8, h9⟩ := hmono _ e1 h4 h5
        exact ⟨e2, h7, h8, by omega⟩
  · refine List.nodup_cons.2 ⟨fun hm => ?_, h.base.nd⟩
    obtain ⟨e, h1, h2, h3⟩ := h.base.qin _ hm
    simp only at h1 h3
    rw [ht] at h1; injection h1 with h1; subst h1
    rcases hl with hl | hl <;> omega
  · obtain ⟨e, h1, h2, h3⟩ := h.base.dn s hs
    have hts : t ≠ s := fun e => hnD (e ▸ hs)
    refine ⟨e, by rw [hget, if_neg hts]; exact h1, h2, fun x hx => ?_⟩
    rcases List.mem_cons.1 hx with hx | hx
    · subst hx
      obtain ⟨e', h4, h5, h6⟩ := h.dle s hs
      rw [h1] at h4; injection h4 with h4; subst h4
      exact ⟨by simp only; omega, fun e => absurd e hts⟩
    · exact h3 x hx
  · rw [hget, if_neg hne]; exact h.at0
  · rcases List.mem_append.1 he' with he' | he'
    · obtain ⟨e1, h4, h5, h6⟩ := h.done e he'
      obtain ⟨e2, h7, h8, h9⟩ := hmono _ e1 h4 h5
      exact ⟨e2, h7, h8, by omega⟩
    · simp at he'; subst he'; exact ⟨_, by rw [hget, if_pos rfl], hv, by simp⟩
  · obtain ⟨e, h1, h2, h3⟩ := h.dle s hs
    have hts : t ≠ s := fun e => hnD (e ▸ hs)
    exact ⟨e, by rw [hget, if_neg hts]; exact h1, h2, h3⟩
theorem xW.init (hK : 0 ≤ K) (hlen : out.length = N) (h01 : ∀ (s : Nat) d, out[s]? = some d → d = -1 ∨ (d = 0 ∧ s ∈ S)) (hS : ∀ s ∈ S, out[s]? = some 0) (hq : q.Perm (S.map (fun s => ((0 : Int), s)))) (hnd : S.Nodup) : xW E S N K (fun _ => False) [] out q := by
  have hkB : kB = 1048576 := rfl
  refine ⟨hlen, fun s d h => ?_, fun s d h h0 => ?_, fun s hs => ⟨0, hS s hs, Int.le_refl _, Int.le_refl _⟩, fun x hx => ?_, fun s d h h0 => ?_, ?_, List.nodup_nil, fun s hs => (by cases hs)⟩
  · rcases h01 s d h with h1 | h1 <;> omega
  · rcases h01 s d h with h1 | ⟨h1, h2⟩
    · omega
    · subst h1
      refine ⟨0, 0, .start h2, by simp, Int.le_refl _, ?_⟩
      have hc : 0 < cntF out := List.countP_pos_iff.2 ⟨0, List.mem_of_getElem? h, by simp⟩
      have hW : 0 ≤ K * kB + 1 := by rw [hkB]; omega
      have := Int.mul_le_mul_of_nonneg_right (show (1 : Int) ≤ (cntF out : Int) by omega) hW
      omega
  · obtain ⟨s, hs, rfl⟩ := List.mem_map.1 (hq.mem_iff.1 hx)
    exact ⟨0, hS s hs, Int.le_refl _, Int.le_refl _⟩
  · rcases h01 s d h with h1 | ⟨h1, h2⟩
    · omega
    · subst h1; exact .inl (hq.mem_iff.2 (List.mem_map.2 ⟨s, h2, rfl⟩))
  · exact hq.nodup_iff.2 (List.pairwise_map.2 (hnd.imp (fun h e => h (congrArg Prod.snd e))))
theorem xW.lt (h : xW E S N K A D out q) (hK : 0 ≤ K) {s : Nat} {d : Int} (hd : out[s]? = some d) (h0 : 0 ≤ d) : d + (K * kB + 1) ≤ N * (K * kB + 1) := by
  obtain ⟨_, _, _, _, _, b⟩ := h.lab s d hd h0
  have hkB : kB = 1048576 := rfl
  have hc := OG out
  rw [h.len] at hc
  have hW : 0 ≤ K * kB + 1 := by rw [hkB]; omega
  have := Int.mul_le_mul_of_nonneg_right (Int.ofNat_le.2 hc) hW
  exact Int.le_trans b this
structure Least (E : Nat → List (Nat × Int)) (S : List Nat) (N : Nat) (out : List Int) : Prop where
  len : out.length = N
  low : ∀ (s : Nat) d, out[s]? = some d → (-1 : Int) ≤ d
  way : ∀ (s : Nat) d, out[s]? = some d → 0 ≤ d → ∃ c n, Wk E S s c n ∧ d = c * kB + n ∧ 0 ≤ c ∧ n < N
  min : ∀ s c n, Wk E S s c n → ∃ d, out[s]? = some d ∧ 0 ≤ d ∧ d ≤ c * kB + n
theorem cnt_lt {out : List Int} {s : Nat} {a b : Int} (hs : out[s]? = some a) (h0 : 0 ≤ a) (hab : a < b) :
    out.countP (fun d => decide (0 ≤ d) && decide (d < a)) < out.countP (fun d => decide (0 ≤ d) && decide (d < b)) := by
  induction out generalizing s with
  | nil => simp at hs
  | cons x r ih =>
    have hle : r.countP (fun d => decide (0 ≤ d) && decide (d < a)) ≤ r.countP (fun d => decide (0 ≤ d) && decide (d < b)) :=
      List.countP_mono_left (fun d _ h => by simp at h ⊢; omega)
    cases s with
    | zero =>
      simp at hs; subst hs
      simp only [List.countP_cons]
      rw [if_neg (by simp), if_pos (by simp; omega)]
      omega
    | succ s =>
      simp at hs
      have := ih hs
      simp only [List.countP_cons]
      split
      · rename_i h; rw [if_pos (by simp at h ⊢; omega)]; omega
      · split <;> omega
theorem KR {out : List Int} {s : Nat} {a : Int} (hs : out[s]? = some a) : out.countP (fun d => decide (0 ≤ d) && decide (d < a)) < out.length := by
  induction out generalizing s with
  | nil => simp at hs
  | cons x r ih =>
    cases s with
    | zero =>
      simp at hs; subst hs
      rw [List.countP_cons, if_neg (by simp)]
      have := List.countP_le_length (l := r) (p := fun d => decide (0 ≤ d) && decide (d < x))
      simp only [List.length_cons]; omega
    | succ s =>
      simp at hs
      have := ih hs
      simp only [List.countP_cons, List.length_cons]
      split <;> omega
theorem xW.least (h : xW E S N K (fun _ => False) D out []) (hE : Ih E N K) : Least E S N out := by
  have hkB : kB = 1048576 := rfl
  have hmin : ∀ s c n, Wk E S s c n → ∃ d, out[s]? = some d ∧ 0 ≤ d ∧ d ≤ c * kB + n := by
    intro s c n w
    induction w with
    | start hs => obtain ⟨d, h1, h2, h3⟩ := h.st _ hs; exact ⟨d, h1, h2, by simpa using h3⟩
    | step w he ih =>
      obtain ⟨d, h1, h2, h3⟩ := ih
      rcases h.rel _ d h1 h2 with h4 | h4 | h4
      · cases h4
      · exact h4.elim
      · obtain ⟨d', h5, h6, h7⟩ := h4 _ he
        exact ⟨d', h5, h6, by rw [Int.add_mul]; push_cast; simp only at h7; omega⟩
  have hway : ∀ (m : Nat) (s : Nat) (d : Int), out[s]? = some d → 0 ≤ d → d.toNat ≤ m → ∃ c n, Wk E S s c n ∧ d = c * kB + n ∧ 0 ≤ c ∧ n ≤ out.countP (fun e => decide (0 ≤ e) && decide (e < d)) := by
    intro m
    induction m with
    | zero =>
      intro s d hd h0 hm
      obtain rfl : d = 0 := by omega
      obtain ⟨c, n, w, e1, p1, _⟩ := h.lab s 0 hd h0
      exact ⟨c, n, w, e1, p1, by rw [hkB] at e1; omega⟩
    | succ m ih =>
      intro s d hd h0 hm
      obtain ⟨c, n, w, e1, p1, _⟩ := h.lab s d hd h0
      cases w with
      | start hs => exact ⟨0, 0, .start hs, by simpa using e1, Int.le_refl _, Nat.zero_le _⟩
      | @step s' c' n' _ k w he =>
        obtain ⟨d', h1, h2, h3⟩ := hmin _ _ _ w
        have hs' : s' < N := by rw [← h.len]; exact (List.getElem?_eq_some_iff.1 h1).1
        obtain ⟨_, k0, _⟩ := (hE s' hs').2 _ he
        simp only at k0
        rcases h.rel _ d' h1 h2 with h4 | h4 | h4
        · cases h4
        · exact h4.elim
        · obtain ⟨d2, h5, h6, h7⟩ := h4 _ he
          simp only at h5 h7
          rw [hd] at h5; injection h5 with h5; subst h5
          have hd' : d = d' + k * kB + 1 := by rw [Int.add_mul] at e1; push_cast at e1; omega
          have hlt : d' < d := by rw [hkB] at hd'; omega
          obtain ⟨c2, n2, w2, e2, p2, m2⟩ := ih s' d' h1 h2 (by omega)
          refine ⟨c2 + k, n2 + 1, w2.step he, by rw [Int.add_mul]; push_cast; omega, by omega, ?_⟩
          have := cnt_lt h1 h2 hlt
          omega
  refine ⟨h.len, h.low, fun s d hd h0 => ?_, hmin⟩
  obtain ⟨c, n, w, e1, p1, m1⟩ := hway _ s d hd h0 (Nat.le_refl _)
  exact ⟨c, n, w, e1, p1, by have := KR hd; rw [h.len] at this; omega⟩
end
structure Gr where
  W : Nat
  H : Nat
  L : Nat
  no : Nat → Bool
  step : Int
  via : Int
  turn : Int
  agn : Int
namespace Gr
variable (G : Gr)
def N : Nat := G.W * G.H * G.L
def X (n : Nat) : Nat := n % G.W
def Y (n : Nat) : Nat := n / G.W % G.H
def Z (n : Nat) : Nat := n / G.W / G.H
def num (x y z : Nat) : Nat := (z * G.H + y) * G.W + x
theorem zY (n : Nat) : G.num (G.X n) (G.Y n) (G.Z n) = n := by
  unfold num X Y Z
  rw [Nat.mul_comm (n / G.W / G.H), Nat.div_add_mod, Nat.mul_comm, Nat.div_add_mod]
theorem Pj {x y z : Nat} (hx : x < G.W) : G.X (G.num x y z) = x := by
  unfold X num; rw [Nat.mul_comm, Nat.mul_add_mod]; exact Nat.mod_eq_of_lt hx
theorem Oj {x y z : Nat} (hx : x < G.W) : G.num x y z / G.W = z * G.H + y := by
  unfold num; rw [Nat.mul_comm, Nat.mul_add_div (by omega), Nat.div_eq_of_lt hx, Nat.add_zero]
theorem Py {x y z : Nat} (hx : x < G.W) (hy : y < G.H) : G.Y (G.num x y z) = y := by
  unfold Y; rw [Oj G hx, Nat.mul_comm, Nat.mul_add_mod]; exact Nat.mod_eq_of_lt hy
theorem Px {x y z : Nat} (hx : x < G.W) (hy : y < G.H) : G.Z (G.num x y z) = z := by
  unfold Z; rw [Oj G hx, Nat.mul_comm, Nat.mul_add_div (by omega), Nat.div_eq_of_lt hy, Nat.add_zero]
theorem Ol {x y z : Nat} (hx : x < G.W) (hy : y < G.H) (hz : z < G.L) : G.num x y z < G.N := by
  unfold num N
  have h1 : z * G.H + y + 1 ≤ G.L * G.H := by
    have : (z + 1) * G.H ≤ G.L * G.H := Nat.mul_le_mul_right _ hz
    rw [Nat.add_mul] at this; omega
  have h2 : (z * G.H + y + 1) * G.W ≤ G.L * G.H * G.W := Nat.mul_le_mul_right _ h1
  rw [Nat.add_mul] at h2
  have h3 : G.L * G.H * G.W = G.W * G.H * G.L := by rw [Nat.mul_comm (G.L * G.H), Nat.mul_comm G.L, Nat.mul_assoc]
  omega
theorem NS {n : Nat} (h : n < G.N) : G.X n < G.W := Nat.mod_lt _ (by
  rcases Nat.eq_zero_or_pos G.W with h0 | h0
  · unfold N at h; rw [h0] at h; simp at h
  · exact h0)
theorem NC {n : Nat} (h : n < G.N) : G.Y n < G.H := Nat.mod_lt _ (by
  rcases Nat.eq_zero_or_pos G.H with h0 | h0
  · unfold N at h; rw [h0] at h; simp at h
  · exact h0)
theorem Ny {n : Nat} (h : n < G.N) : G.Z n < G.L := by
  unfold Z
  rw [Nat.div_div_eq_div_mul]
  have : 0 < G.W * G.H := by
    rcases Nat.eq_zero_or_pos (G.W * G.H) with h0 | h0
    · unfold N at h; rw [h0] at h; simp at h
    · exact h0
  exact (Nat.div_lt_iff_lt_mul this).2 (by unfold N at h; rw [Nat.mul_comm]; exact h)
def Nb (n m : Nat) (al : Int) : Prop := n < G.N ∧ m < G.N ∧
  ((al = 1 ∧ G.Y n = G.Y m ∧ G.Z n = G.Z m ∧ (G.X m = G.X n + 1 ∨ G.X n = G.X m + 1)) ∨
   (al = 2 ∧ G.X n = G.X m ∧ G.Z n = G.Z m ∧ (G.Y m = G.Y n + 1 ∨ G.Y n = G.Y m + 1)) ∨
   (al = 3 ∧ G.X n = G.X m ∧ G.Y n = G.Y m ∧ (G.Z m = G.Z n + 1 ∨ G.Z n = G.Z m + 1)))
theorem Nb.symm {n m : Nat} {al : Int} (h : G.Nb n m al) : G.Nb m n al := by
  unfold Nb at *; omega
def base (n : Nat) (al : Int) : Int := if al = 3 then G.via else G.step + (if (decide (G.Z n % 2 = 0) == decide (al = 2)) = true then G.agn else 0)
theorem Nb.base {n m : Nat} {al : Int} (h : G.Nb n m al) : G.base n al = G.base m al := by
  unfold Gr.base
  unfold Nb at h
  split
  · rfl
  · have : G.Z n = G.Z m := by omega
    rw [this]
def tn (last al : Int) : Int := if last ≠ 0 ∧ last ≠ al then G.turn else 0
def trn : Int → List Int → Int
  | _, [] => 0
  | last, al :: r => G.tn last al + trn al r
def lst : Int → List Int → Int
  | last, [] => last
  | _, al :: r => lst al r
theorem BX (a : Int) (L M : List Int) : lst a (L ++ M) = lst (lst a L) M := by
  induction L generalizing a with
  | nil => rfl
  | cons x r ih => exact ih x
theorem BM (a : Int) (L M : List Int) : G.trn a (L ++ M) = G.trn a L + G.trn (lst a L) M := by
  induction L generalizing a with
  | nil => simp [trn, lst]
  | cons x r ih => simp only [List.cons_append, trn, lst, ih]; omega
theorem OE {a b : Int} (ha : a ≠ 0) (hb : b ≠ 0) : G.tn a b = G.tn b a := by
  unfold tn; by_cases h : a = b
  · subst h; rfl
  · rw [if_pos ⟨ha, h⟩, if_pos ⟨hb, fun e => h e.symm⟩]
theorem I7 (a : Int) : G.tn 0 a = 0 := by unfold tn; rw [if_neg (by simp)]
theorem Jp (L : List Int) (h : ∀ a ∈ L, a ≠ 0) : G.trn 0 L.reverse = G.trn 0 L := by
  have key : ∀ (L : List Int) (x : Int), x ≠ 0 → (∀ a ∈ L, a ≠ 0) → G.trn 0 (L.reverse ++ [x]) = G.trn x L := by
    intro L
    induction L with
    | nil => intro x _ _; simp [trn, I7]
    | cons y r ih =>
      intro x hx hL
      have hy := hL y List.mem_cons_self
      rw [List.reverse_cons, BM, ih y hy (fun a ha => hL a (List.mem_cons_of_mem _ ha)), BX]
      simp only [trn, lst]
      rw [G.OE hy hx]; omega
  cases L with
  | nil => rfl
  | cons x r =>
    rw [List.reverse_cons, key r x (h x List.mem_cons_self) (fun a ha => h a (List.mem_cons_of_mem _ ha))]
    simp [trn, I7]
inductive Pth : Nat → Nat → Int → Nat → List Int → Prop
  | nil {a : Nat} : a < G.N → G.no a = false → Pth a a 0 0 []
  | snoc {a b m : Nat} {c : Int} {n : Nat} {L : List Int} {al : Int} : Pth a b c n L → G.Nb b m al → G.no m = false → Pth a m (c + G.base b al) (n + 1) (if al = 3 then L else L ++ [al])
theorem Pth.cons {a b : Nat} {c : Int} {n : Nat} {L : List Int} (h : G.Pth a b c n L) {z : Nat} {al : Int} (hz : G.Nb z a al) (hn : G.no z = false) : G.Pth z b (c + G.base z al) (n + 1) (if al = 3 then L else al :: L) := by
  induction h with
  | nil ha h0 =>
    have := (Pth.nil hz.1 hn).snoc hz h0
    simp only [List.nil_append] at this ⊢
    exact this
  | @snoc b m c n L be h hb h0 ih =>
    have := ih.snoc hb h0
    rw [show c + G.base b be + G.base z al = c + G.base z al + G.base b be by omega]
    by_cases h1 : al = 3 <;> by_cases h2 : be = 3 <;> simp only [h1, h2, if_true, if_false, List.cons_append] at this ⊢ <;> exact this
theorem Pth.ends {a b : Nat} {c : Int} {n : Nat} {L : List Int} (h : G.Pth a b c n L) : a < G.N ∧ b < G.N ∧ G.no a = false ∧ G.no b = false := by
  induction h with
  | nil ha h0 => exact ⟨ha, ha, h0, h0⟩
  | snoc h hb h0 ih => exact ⟨ih.1, hb.2.1, ih.2.2.1, h0⟩
theorem Pth.QF {a b : Nat} {c : Int} {n : Nat} {L : List Int} (h : G.Pth a b c n L) : ∀ x ∈ L, x = 1 ∨ x = 2 := by
  induction h with
  | nil => intro x hx; cases hx
  | @snoc b m c n L al h hb h0 ih =>
    intro x hx
    split at hx
    · exact ih x hx
    · rcases List.mem_append.1 hx with h1 | h1
      · exact ih x h1
      · simp at h1; subst h1; unfold Nb at hb; omega
theorem Pth.rev {a b : Nat} {c : Int} {n : Nat} {L : List Int} (h : G.Pth a b c n L) : G.Pth b a c n L.reverse := by
  induction h with
  | nil ha h0 => exact .nil ha h0
  | @snoc b m c n L al h hb h0 ih =>
    have := Pth.cons G ih (Nb.symm G hb) h0
    rw [← Nb.base G hb] at this
    by_cases h1 : al = 3
    · simp only [h1, if_true] at this ⊢; exact this
    · simp only [h1, if_false, List.reverse_append, List.reverse_cons, List.reverse_nil, List.nil_append, List.cons_append] at this ⊢; exact this
end Gr
namespace Gr
variable (G : Gr)
theorem ED (x y z : Nat) : G.num (x + 1) y z = G.num x y z + 1 := by unfold num; omega
theorem EN (x y z : Nat) : G.num x (y + 1) z = G.num x y z + G.W := by
  unfold num; rw [← Nat.add_assoc, Nat.add_mul (z * G.H + y) 1, Nat.one_mul]; omega
theorem EG (x y z : Nat) : G.num x y (z + 1) = G.num x y z + G.W * G.H := by
  unfold num; rw [Nat.add_mul z 1, Nat.one_mul, show z * G.H + G.H + y = z * G.H + y + G.H by omega, Nat.add_mul (z * G.H + y) G.H, Nat.mul_comm G.H]; omega
def nb1 (c : Bool) (m : Nat) (al : Int) : List (Nat × Int) := if c = true ∧ G.no m = false then [(m, al)] else []
theorem Pg {c : Bool} {m m' : Nat} {al al' : Int} : (m', al') ∈ G.nb1 c m al ↔ c = true ∧ G.no m = false ∧ m' = m ∧ al' = al := by
  unfold nb1; split
  · rename_i h; simp [h]
  · rename_i h; simp only [List.not_mem_nil, false_iff]; rintro ⟨h1, h2, _⟩; exact h ⟨h1, h2⟩
def zV (n : Nat) : List (Nat × Int) :=
  G.nb1 (decide (0 < G.Z n)) (n - G.W * G.H) 3 ++ (G.nb1 (decide (0 < G.Y n)) (n - G.W) 2 ++ (G.nb1 (decide (0 < G.X n)) (n - 1) 1 ++ (G.nb1 (decide (G.X n + 1 < G.W)) (n + 1) 1 ++ (G.nb1 (decide (G.Y n + 1 < G.H)) (n + G.W) 2 ++ G.nb1 (decide (G.Z n + 1 < G.L)) (n + G.W * G.H) 3))))
theorem yQ {n m : Nat} (hn : n < G.N) {x y z : Nat} (hx : x < G.W) (hy : y < G.H) (hz : z < G.L) (hm : m = G.num x y z) : m < G.N ∧ G.X m = x ∧ G.Y m = y ∧ G.Z m = z := by
  subst hm; exact ⟨G.Ol hx hy hz, G.Pj hx, G.Py hx hy, G.Px hx hy⟩
theorem zS {n m : Nat} {al : Int} (hn : n < G.N) : (m, al) ∈ G.zV n ↔ G.Nb n m al ∧ G.no m = false := by
  have hx := G.NS hn
  have hy := G.NC hn
  have hz := G.Ny hn
  have hs := G.zY n
  unfold zV
  simp only [List.mem_append, Pg, decide_eq_true_eq]
  constructor
  · rintro (⟨hc, h0, rfl, rfl⟩ | ⟨hc, h0, rfl, rfl⟩ | ⟨hc, h0, rfl, rfl⟩ | ⟨hc, h0, rfl, rfl⟩ | ⟨hc, h0, rfl, rfl⟩ | ⟨hc, h0, rfl, rfl⟩) <;> refine ⟨?_, h0⟩
    · obtain ⟨k, hk⟩ : ∃ k, G.Z n = k + 1 := ⟨G.Z n - 1, by omega⟩
      rw [hk, EG] at hs
      obtain ⟨h1, h2, h3, h4⟩ := G.yQ (m := n - G.W * G.H) hn hx hy (z := k) (by omega) (by omega)
      exact ⟨hn, h1, .inr (.inr ⟨rfl, h2.symm, h3.symm, .inr (by omega)⟩)⟩
    · obtain ⟨k, hk⟩ : ∃ k, G.Y n = k + 1 := ⟨G.Y n - 1, by omega⟩
      rw [hk, EN] at hs
      obtain ⟨h1, h2, h3, h4⟩ := G.yQ (m := n - G.W) hn hx (y := k) (by omega) hz (by omega)
      exact ⟨hn, h1, .inr (.inl ⟨rfl, h2.symm, h4.symm, .inr (by omega)⟩)⟩
    · obtain ⟨k, hk⟩ : ∃ k, G.X n = k + 1 := ⟨G.X n - 1, by omega⟩
      rw [hk, ED] at hs
      obtain ⟨h1, h2, h3, h4⟩ := G.yQ (m := n - 1) hn (x := k) (by omega) hy hz (by omega)
      exact ⟨hn, h1, .inl ⟨rfl, h3.symm, h4.symm, .inr (by omega)⟩⟩
    · obtain ⟨h1, h2, h3, h4⟩ := G.yQ (m := n + 1) hn hc hy hz (by rw [ED, hs])
      exact ⟨hn, h1, .inl ⟨rfl, h3.symm, h4.symm, .inl h2⟩⟩
    · obtain ⟨h1, h2, h3, h4⟩ := G.yQ (m := n + G.W) hn hx hc hz (by rw [EN, hs])
      exact ⟨hn, h1, .inr (.inl ⟨rfl, h2.symm, h4.symm, .inl h3⟩)⟩
    · obtain ⟨h1, h2, h3, h4⟩ := G.yQ (m := n + G.W * G.H) hn hx hy hc (by rw [EG, hs])
      exact ⟨hn, h1, .inr (.inr ⟨rfl, h2.symm, h3.symm, .inl h4⟩)⟩
  · rintro ⟨⟨_, hm, h⟩, h0⟩
    have hxm := G.NS hm
    have hym := G.NC hm
    have hzm := G.Ny hm
    have hsm := G.zY m
    rcases h with ⟨rfl, e1, e2, e3 | e3⟩ | ⟨rfl, e1, e2, e3 | e3⟩ | ⟨rfl, e1, e2, e3 | e3⟩
    · have e : m = n + 1 := by rw [← hsm, e3, ← e1, ← e2, ED, hs]
      subst e; exact .inr (.inr (.inr (.inl ⟨by omega, h0, rfl, rfl⟩)))
    · have e : n = m + 1 := by rw [← hs, e3, e1, e2, ED, hsm]
      have e' : m = n - 1 := by omega
      subst e'; exact .inr (.inr (.inl ⟨by omega, h0, rfl, rfl⟩))
    · have e : m = n + G.W := by rw [← hsm, e3, ← e1, ← e2, EN, hs]
      subst e; exact .inr (.inr (.inr (.inr (.inl ⟨by omega, h0, rfl, rfl⟩))))
    · have e : n = m + G.W := by rw [← hs, e3, e1, e2, EN, hsm]
      have e' : m = n - G.W := by omega
      subst e'; exact .inr (.inl ⟨by omega, h0, rfl, rfl⟩)
    · have e : m = n + G.W * G.H := by rw [← hsm, e3, ← e1, ← e2, EG, hs]
      subst e; exact .inr (.inr (.inr (.inr (.inr ⟨by omega, h0, rfl, rfl⟩))))
    · have e : n = m + G.W * G.H := by rw [← hs, e3, e1, e2, EG, hsm]
      have e' : m = n - G.W * G.H := by omega
      subst e'; exact .inl ⟨by omega, h0, rfl, rfl⟩
def el (back : Bool) (s : Nat) (e : Nat × Int) : List (Nat × Int) :=
  if e.2 = 3 then [(3 * e.1 + s % 3, G.via)]
  else if back = true then (if e.2 = ((s % 3 : Nat) : Int) then [(3 * e.1, G.base (s / 3) e.2 + G.tn 0 e.2), (3 * e.1 + 1, G.base (s / 3) e.2 + G.tn 1 e.2), (3 * e.1 + 2, G.base (s / 3) e.2 + G.tn 2 e.2)] else [])
  else [(3 * e.1 + e.2.toNat, G.base (s / 3) e.2 + G.tn ((s % 3 : Nat) : Int) e.2)]
def E (back : Bool) (s : Nat) : List (Nat × Int) := (G.zV (s / 3)).flatMap (G.el back s)
structure Ok : Prop where
  step : 1 ≤ G.step ∧ G.step ≤ 1000
  via : 1 ≤ G.via ∧ G.via ≤ 1000
  turn : 0 ≤ G.turn ∧ G.turn ≤ 1000
  agn : 0 ≤ G.agn ∧ G.agn ≤ 1000
theorem Oa (n : Nat) : (G.zV n).length ≤ 6 := by
  have h : ∀ c m al, (G.nb1 c m al).length ≤ 1 := fun c m al => by unfold nb1; split <;> simp
  unfold zV
  simp only [List.length_append]
  have := h (decide (0 < G.Z n)) (n - G.W * G.H) 3
  have := h (decide (0 < G.Y n)) (n - G.W) 2
  have := h (decide (0 < G.X n)) (n - 1) 1
  have := h (decide (G.X n + 1 < G.W)) (n + 1) 1
  have := h (decide (G.Y n + 1 < G.H)) (n + G.W) 2
  have := h (decide (G.Z n + 1 < G.L)) (n + G.W * G.H) 3
  omega
theorem Qn (back : Bool) (s : Nat) (e : Nat × Int) : (G.el back s e).length ≤ 3 := by
  unfold el; split
  · simp
  · split
    · split <;> simp
    · simp
variable {G}
theorem Ok.base (h : G.Ok) (n : Nat) (al : Int) : 1 ≤ G.base n al ∧ G.base n al ≤ 2000 := by
  have := h.step; have := h.via; have := h.agn
  unfold Gr.base; split
  · omega
  · split <;> omega
theorem Ok.tn (h : G.Ok) (a b : Int) : 0 ≤ G.tn a b ∧ G.tn a b ≤ 1000 := by
  have := h.turn
  unfold Gr.tn; split <;> omega
theorem Ez {α β : Type} (g : α → List β) (k : Nat) : ∀ l : List α, (∀ x ∈ l, (g x).length ≤ k) → (l.flatMap g).length ≤ k * l.length
  | [], _ => by simp
  | x :: r, h => by
    have := Ez g k r (fun y hy => h y (List.mem_cons_of_mem _ hy))
    have := h x List.mem_cons_self
    simp only [List.flatMap_cons, List.length_append, List.length_cons, Nat.mul_add]
    omega
theorem Ok.good (h : G.Ok) (back : Bool) : Ih (G.E back) (3 * G.N) 3000 := by
  intro s hs
  constructor
  · have := Ez (G.el back s) 3 (G.zV (s / 3)) (fun e _ => G.Qn back s e)
    have := G.Oa (s / 3)
    unfold E; omega
  · intro e he
    obtain ⟨⟨m, al⟩, hm, he⟩ := List.mem_flatMap.1 he
    have hm := ((G.zS (by omega)).1 hm).1
    have hmN : m < G.N := hm.2.1
    have hal : al = 1 ∨ al = 2 ∨ al = 3 := by have := hm.2.2; omega
    have := h.via
    have hb := h.base (s / 3) al
    have t0 := h.tn 0 al
    have t1 := h.tn 1 al
    have t2 := h.tn 2 al
    have t3 := h.tn ((s % 3 : Nat) : Int) al
    unfold el at he
    simp only at he
    split at he
    · simp at he; subst he; exact ⟨by simp only; omega, by simp only; omega, by simp only; omega⟩
    · split at he
      · split at he
        · simp only [List.mem_cons, List.not_mem_nil, or_false] at he
          rcases he with rfl | rfl | rfl <;> exact ⟨by simp only; omega, by simp only; omega, by simp only; omega⟩
        · cases he
      · simp only [List.mem_cons, List.not_mem_nil, or_false] at he
        subst he; exact ⟨by simp only; omega, by simp only; omega, by simp only; omega⟩
end Gr
end Go.Proofs.YtfjcgoiedlimdaaGreatDoor

/- Chapter texts of ours, as far as the claim needs them. -/
import Derived.Test.YtihjaehkdgdenaaGreatDoorHeap
namespace Go.Proofs.YtihjaehkdgdenaaGreatDoor
open Go Go.RowKit
set_option linter.unusedVariables false
set_option linter.unusedSectionVars false
set_option linter.unusedSimpArgs false
def kB : Int := 1048576
inductive Wk (E : Nat → List (Nat × Int)) (S : List Nat) : Nat → Int → Nat → Prop
  | start {s : Nat} : s ∈ S → Wk E S s 0 0
  | step {s : Nat} {c : Int} {n : Nat} {t : Nat} {k : Int} : Wk E S s c n → (t, k) ∈ E s → Wk E S t (c + k) (n + 1)
def cntF (out : List Int) : Nat := out.countP (fun d => decide (0 ≤ d))
theorem cntF_le (out : List Int) : cntF out ≤ out.length := List.countP_le_length
theorem cntF_set {out : List Int} {t : Nat} {d v : Int} (h : out[t]? = some d) (hv : 0 ≤ v) : cntF (out.set t v) = cntF out + (if 0 ≤ d then 0 else 1) := by
  unfold cntF
  induction out generalizing t with
  | nil => simp at h
  | cons x r ih =>
    cases t with
    | zero =>
      simp at h; subst h
      simp only [List.set_cons_zero, List.countP_cons, decide_eq_true_eq, hv, if_true]
      split <;> simp
    | succ t =>
      simp at h
      simp only [List.set_cons_succ, List.countP_cons, ih h]
      omega
theorem nodup_len : ∀ (N : Nat) (D : List Nat), D.Nodup → (∀ s ∈ D, s < N) → D.length ≤ N
  | 0, D, _, h => by
    cases D with
    | nil => simp
    | cons x r => exact absurd (h x List.mem_cons_self) (by omega)
  | N + 1, D, hn, h => by
    have h1 : (D.erase N).length ≤ N := nodup_len N (D.erase N) (hn.erase N) (fun s hs => by
      have h2 := h s (List.mem_of_mem_erase hs)
      have h3 : s ≠ N := fun e => by subst e; exact (List.Nodup.not_mem_erase hn) hs
      omega)
    have := List.length_erase (a := N) (l := D)
    split at this <;> omega
structure SInv (E : Nat → List (Nat × Int)) (S : List Nat) (N : Nat) (K : Int) (A : Nat → Prop) (D : List Nat) (out : List Int) (q : List (Int × Nat)) : Prop where
  len : out.length = N
  low : ∀ (s : Nat) d, out[s]? = some d → (-1 : Int) ≤ d
  lab : ∀ (s : Nat) d, out[s]? = some d → 0 ≤ d → ∃ c n, Wk E S s c n ∧ d = c * kB + n ∧ 0 ≤ c ∧ d + (K * kB + 1) ≤ cntF out * (K * kB + 1)
  st : ∀ s ∈ S, ∃ d, out[s]? = some d ∧ 0 ≤ d ∧ d ≤ 0
  qin : ∀ x ∈ q, ∃ d, out[x.2]? = some d ∧ 0 ≤ d ∧ d ≤ x.1
  rel : ∀ (s : Nat) d, out[s]? = some d → 0 ≤ d → (d, s) ∈ q ∨ A s ∨ ∀ e ∈ E s, ∃ d', out[e.1]? = some d' ∧ 0 ≤ d' ∧ d' ≤ d + e.2 * kB + 1
  nd : q.Nodup
  dnd : D.Nodup
  dn : ∀ s ∈ D, ∃ d, out[s]? = some d ∧ 0 ≤ d ∧ ∀ x ∈ q, d ≤ x.1 ∧ (x.2 = s → d < x.1)
structure RInv (E : Nat → List (Nat × Int)) (S : List Nat) (N : Nat) (K : Int) (s0 : Nat) (d0 : Int) (L R : List (Nat × Int)) (D : List Nat) (out : List Int) (q : List (Int × Nat)) : Prop where
  base : SInv E S N K (· = s0) D out q
  at0 : out[s0]? = some d0
  pos0 : 0 ≤ d0
  all : E s0 = L ++ R
  done : ∀ e ∈ L, ∃ d', out[e.1]? = some d' ∧ 0 ≤ d' ∧ d' ≤ d0 + e.2 * kB + 1
  dle : ∀ s ∈ D, ∃ d, out[s]? = some d ∧ 0 ≤ d ∧ d ≤ d0
def GoodE (E : Nat → List (Nat × Int)) (N : Nat) (K : Int) : Prop := ∀ s, s < N → (E s).length ≤ 18 ∧ ∀ e ∈ E s, e.1 < N ∧ 0 ≤ e.2 ∧ e.2 ≤ K
section
variable {E : Nat → List (Nat × Int)} {S : List Nat} {N : Nat} {K : Int} {A : Nat → Prop} {D : List Nat} {out : List Int} {q q' : List (Int × Nat)}
theorem SInv.perm (h : SInv E S N K A D out q) (hp : q'.Perm q) : SInv E S N K A D out q' :=
  ⟨h.len, h.low, h.lab, h.st, fun x hx => h.qin x (hp.mem_iff.1 hx), fun s d h1 h2 => (h.rel s d h1 h2).imp (fun h => hp.mem_iff.2 h) id, hp.nodup_iff.2 h.nd, h.dnd,
    fun s hs => let ⟨d, h1, h2, h3⟩ := h.dn s hs; ⟨d, h1, h2, fun x hx => h3 x (hp.mem_iff.1 hx)⟩⟩
theorem RInv.perm {s0 : Nat} {d0 : Int} {L R : List (Nat × Int)} (h : RInv E S N K s0 d0 L R D out q) (hp : q'.Perm q) : RInv E S N K s0 d0 L R D out q' :=
  ⟨h.base.perm hp, h.at0, h.pos0, h.all, h.done, h.dle⟩
theorem SInv.dlen (h : SInv E S N K A D out q) : D.length ≤ N := nodup_len N D h.dnd (fun s hs => by
  obtain ⟨d, h1, _⟩ := h.dn s hs; rw [← h.len]; exact (List.getElem?_eq_some_iff.1 h1).1)
theorem SInv.skip {x : Int × Nat} (h : SInv E S N K A D out (x :: q)) {d : Int} (hd : out[x.2]? = some d) (hx : d < x.1) : SInv E S N K A D out q :=
  ⟨h.len, h.low, h.lab, h.st, fun y hy => h.qin y (List.mem_cons_of_mem _ hy), fun s e h1 h2 => by
    rcases h.rel s e h1 h2 with h3 | h3
    · rcases List.mem_cons.1 h3 with h4 | h4
      · subst h4; simp only at hd hx; rw [h1] at hd; injection hd with hd; omega
      · exact .inl h4
    · exact .inr h3, (List.nodup_cons.1 h.nd).2, h.dnd, fun s hs => let ⟨d, h1, h2, h3⟩ := h.dn s hs; ⟨d, h1, h2, fun x hx => h3 x (List.mem_cons_of_mem _ hx)⟩⟩
theorem SInv.open_ {x : Int × Nat} (h : SInv E S N K (fun _ => False) D out (x :: q)) (hmin : ∀ y ∈ q, x.1 ≤ y.1) {d : Int} (hd : out[x.2]? = some d) (hx : ¬ d < x.1) : RInv E S N K x.2 x.1 [] (E x.2) (x.2 :: D) out q ∧ D.length < N := by
  obtain ⟨d', h1, h2, h3⟩ := h.qin x List.mem_cons_self
  rw [hd] at h1; injection h1 with h1; subst h1
  obtain rfl : d = x.1 := by omega
  have hnd := List.nodup_cons.1 h.nd
  have hnot : x.2 ∉ D := fun hm => by
    obtain ⟨e, h4, h5, h6⟩ := h.dn _ hm
    have := (h6 x List.mem_cons_self).2 rfl
    rw [hd] at h4; injection h4 with h4; omega
  have hb : SInv E S N K (· = x.2) (x.2 :: D) out q := by
    refine ⟨h.len, h.low, h.lab, h.st, fun y hy => h.qin y (List.mem_cons_of_mem _ hy), fun s e h4 h5 => ?_, hnd.2, List.nodup_cons.2 ⟨hnot, h.dnd⟩, fun s hs => ?_⟩
    · rcases h.rel s e h4 h5 with h6 | h6 | h6
      · rcases List.mem_cons.1 h6 with h7 | h7
        · exact .inr (.inl (by rw [← h7]))
        · exact .inl h7
      · exact h6.elim
      · exact .inr (.inr h6)
    · rcases List.mem_cons.1 hs with hs | hs
      · subst hs
        refine ⟨x.1, hd, h2, fun y hy => ⟨hmin y hy, fun e => ?_⟩⟩
        have h8 := hmin y hy
        rcases Int.lt_or_eq_of_le h8 with h9 | h9
        · exact h9
        · exact absurd (show x ∈ q by rw [show x = y from Prod.ext h9 e.symm]; exact hy) hnd.1
      · obtain ⟨e, h4, h5, h6⟩ := h.dn s hs
        exact ⟨e, h4, h5, fun y hy => h6 y (List.mem_cons_of_mem _ hy)⟩
  refine ⟨⟨hb, hd, h2, by simp, fun e he => (by cases he), fun s hs => ?_⟩, by have := hb.dlen; simp only [List.length_cons] at this; omega⟩
  rcases List.mem_cons.1 hs with hs | hs
  · subst hs; exact ⟨x.1, hd, h2, Int.le_refl _⟩
  · obtain ⟨e, h4, h5, h6⟩ := h.dn s hs
    exact ⟨e, h4, h5, (h6 x List.mem_cons_self).1⟩
theorem RInv.close {s0 : Nat} {d0 : Int} {L : List (Nat × Int)} (h : RInv E S N K s0 d0 L [] D out q) : SInv E S N K (fun _ => False) D out q :=
  ⟨h.base.len, h.base.low, h.base.lab, h.base.st, h.base.qin, fun s d h1 h2 => by
    rcases h.base.rel s d h1 h2 with h3 | h3 | h3
    · exact .inl h3
    · subst h3; refine .inr (.inr ?_); have := h.at0; rw [h1] at this; injection this with this; subst this
      have ha := h.all; rw [List.append_nil] at ha; rw [ha]; exact h.done
    · exact .inr (.inr h3), h.base.nd, h.base.dnd, h.base.dn⟩
theorem RInv.keep {s0 : Nat} {d0 : Int} {L R : List (Nat × Int)} {t : Nat} {k d : Int} (h : RInv E S N K s0 d0 L ((t, k) :: R) D out q) (ht : out[t]? = some d) (h0 : ¬ d < 0) (h1 : ¬ d0 + k * kB + 1 < d) : RInv E S N K s0 d0 (L ++ [(t, k)]) R D out q :=
  ⟨h.base, h.at0, h.pos0, by rw [h.all]; simp, fun e he => by
    rcases List.mem_append.1 he with he | he
    · exact h.done e he
    · simp at he; subst he; exact ⟨d, ht, by omega, by simp only; omega⟩, h.dle⟩
theorem RInv.less {s0 : Nat} {d0 : Int} {L R : List (Nat × Int)} {t : Nat} {k d : Int} (h : RInv E S N K s0 d0 L ((t, k) :: R) D out q) (hE : GoodE E N K) (hK : 0 ≤ K) (ht : out[t]? = some d) (hl : d < 0 ∨ d0 + k * kB + 1 < d) :
    RInv E S N K s0 d0 (L ++ [(t, k)]) R D (out.set t (d0 + k * kB + 1)) ((d0 + k * kB + 1, t) :: q) := by
  have hkB : kB = 1048576 := rfl
  have hp0 := h.pos0
  have he : (t, k) ∈ E s0 := by rw [h.all]; simp
  have hs0 : s0 < N := by rw [← h.base.len]; exact (List.getElem?_eq_some_iff.1 h.at0).1
  obtain ⟨_, hk, hk2⟩ := (hE s0 hs0).2 _ he
  simp only at hk hk2
  have hv : 0 ≤ d0 + k * kB + 1 := by rw [hkB]; omega
  have hgt : d0 < d0 + k * kB + 1 := by rw [hkB]; omega
  have hlt := (List.getElem?_eq_some_iff.1 ht).1
  have hne : t ≠ s0 := by
    rintro rfl
    have := h.at0; rw [ht] at this; injection this with this; subst this
    rcases hl with hl | hl <;> omega
  have hnD : t ∉ D := fun hm => by
    obtain ⟨e, h4, h5, h6⟩ := h.dle t hm
    rw [ht] at h4; injection h4 with h4; subst h4
    rcases hl with hl | hl <;> omega
  have hget : ∀ s, (out.set t (d0 + k * kB + 1))[s]? = if t = s then some (d0 + k * kB + 1) else out[s]? := fun s => by
    rw [List.getElem?_set]; split
    · rename_i e; subst e; simp [hlt]
    · rfl
  have hmono : ∀ (s : Nat) (e : Int), out[s]? = some e → 0 ≤ e → ∃ e', (out.set t (d0 + k * kB + 1))[s]? = some e' ∧ 0 ≤ e' ∧ e' ≤ e := fun s e h1 h2 => by
    rw [hget]; split
    · rename_i e3; subst e3; rw [ht] at h1; injection h1 with h1; subst h1
      exact ⟨_, rfl, hv, by rcases hl with hl | hl <;> omega⟩
    · exact ⟨e, h1, h2, Int.le_refl _⟩
  have hcnt := cntF_set ht hv
  obtain ⟨c0, n0, w0, e0, p0, m0⟩ := h.base.lab s0 d0 h.at0 h.pos0
  have hW : 0 ≤ K * kB + 1 := by rw [hkB]; omega
  have hkW : k * kB + 1 ≤ K * kB + 1 := by rw [hkB]; omega
  generalize hWe : K * kB + 1 = W at *
  refine ⟨⟨by rw [List.length_set]; exact h.base.len, fun s e h1 => ?_, fun s e h1 h2 => ?_, fun s hs => ?_, fun x hx => ?_, fun s e h1 h2 => ?_, ?_, h.base.dnd, fun s hs => ?_⟩, ?_, h.pos0, by rw [h.all]; simp, fun e he' => ?_, fun s hs => ?_⟩
  · rw [hget] at h1; split at h1
    · injection h1 with h1; omega
    · exact h.base.low s e h1
  · rw [hget] at h1; split at h1
    · rename_i e3; subst e3; injection h1 with h1; subst h1
      refine ⟨c0 + k, n0 + 1, w0.step he, by rw [e0, Int.add_mul]; push_cast; omega, by omega, ?_⟩
      rw [hWe, hcnt]
      by_cases hd0 : 0 ≤ d
      · rw [if_pos hd0]
        obtain ⟨_, _, _, _, _, b⟩ := h.base.lab t d ht hd0
        rw [hWe] at b
        simp only [Nat.add_zero]
        omega
      · rw [if_neg hd0, show ((cntF out + 1 : Nat) : Int) = (cntF out : Int) + 1 by omega, Int.add_mul]; omega
    · obtain ⟨c, n, w, e1, p1, b1⟩ := h.base.lab s e h1 h2
      rw [hWe] at b1
      refine ⟨c, n, w, e1, p1, ?_⟩
      rw [hWe, hcnt]
      split
      · exact b1
      · rw [show ((cntF out + 1 : Nat) : Int) = (cntF out : Int) + 1 by omega, Int.add_mul]; omega
  · obtain ⟨e, h1, h2, h3⟩ := h.base.st s hs
    obtain ⟨e', h4, h5, h6⟩ := hmono s e h1 h2
    exact ⟨e', h4, h5, by omega⟩
  · rcases List.mem_cons.1 hx with hx | hx
    · subst hx; exact ⟨_, by rw [hget, if_pos rfl], hv, Int.le_refl _⟩
    · obtain ⟨e, h1, h2, h3⟩ := h.base.qin x hx
      obtain ⟨e', h4, h5, h6⟩ := hmono _ e h1 h2
      exact ⟨e', h4, h5, by omega⟩
  · rw [hget] at h1; split at h1
    · rename_i e3; subst e3; injection h1 with h1; subst h1; exact .inl List.mem_cons_self
    · rcases h.base.rel s e h1 h2 with h3 | h3 | h3
      · exact .inl (List.mem_cons_of_mem _ h3)
      · exact .inr (.inl h3)
      · refine .inr (.inr fun f hf => ?_)
        obtain ⟨e1, h4, h5, h6⟩ := h3 f hf
        obtain ⟨e2, h7, h8, h9⟩ := hmono _ e1 h4 h5
        exact ⟨e2, h7, h8, by omega⟩
  · refine List.nodup_cons.2 ⟨fun hm => ?_, h.base.nd⟩
    obtain ⟨e, h1, h2, h3⟩ := h.base.qin _ hm
    simp only at h1 h3
    rw [ht] at h1; injection h1 with h1; subst h1
    rcases hl with hl | hl <;> omega
  · obtain ⟨e, h1, h2, h3⟩ := h.base.dn s hs
    have hts : t ≠ s := fun e => hnD (e ▸ hs)
    refine ⟨e, by rw [hget, if_neg hts]; exact h1, h2, fun x hx => ?_⟩
    rcases List.mem_cons.1 hx with hx | hx
    · subst hx
      obtain ⟨e', h4, h5, h6⟩ := h.dle s hs
      rw [h1] at h4; injection h4 with h4; subst h4
      exact ⟨by simp only; omega, fun e => absurd e hts⟩
    · exact h3 x hx
  · rw [hget, if_neg hne]; exact h.at0
  · rcases List.mem_append.1 he' with he' | he'
    · obtain ⟨e1, h4, h5, h6⟩ := h.done e he'
      obtain ⟨e2, h7, h8, h9⟩ := hmono _ e1 h4 h5
      exact ⟨e2, h7, h8, by omega⟩
    · simp at he'; subst he'; exact ⟨_, by rw [hget, if_pos rfl], hv, by simp⟩
  · obtain ⟨e, h1, h2, h3⟩ := h.dle s hs
    have hts : t ≠ s := fun e => hnD (e ▸ hs)
    exact ⟨e, by rw [hget, if_neg hts]; exact h1, h2, h3⟩
theorem SInv.init (hK : 0 ≤ K) (hlen : out.length = N) (h01 : ∀ (s : Nat) d, out[s]? = some d → d = -1 ∨ (d = 0 ∧ s ∈ S)) (hS : ∀ s ∈ S, out[s]? = some 0) (hq : q.Perm (S.map (fun s => ((0 : Int), s)))) (hnd : S.Nodup) : SInv E S N K (fun _ => False) [] out q := by
  have hkB : kB = 1048576 := rfl
  refine ⟨hlen, fun s d h => ?_, fun s d h h0 => ?_, fun s hs => ⟨0, hS s hs, Int.le_refl _, Int.le_refl _⟩, fun x hx => ?_, fun s d h h0 => ?_, ?_, List.nodup_nil, fun s hs => (by cases hs)⟩
  · rcases h01 s d h with h1 | h1 <;> omega
  · rcases h01 s d h with h1 | ⟨h1, h2⟩
    · omega
    · subst h1
      refine ⟨0, 0, .start h2, by simp, Int.le_refl _, ?_⟩
      have hc : 0 < cntF out := List.countP_pos_iff.2 ⟨0, List.mem_of_getElem? h, by simp⟩
      have hW : 0 ≤ K * kB + 1 := by rw [hkB]; omega
      have := Int.mul_le_mul_of_nonneg_right (show (1 : Int) ≤ (cntF out : Int) by omega) hW
      omega
  · obtain ⟨s, hs, rfl⟩ := List.mem_map.1 (hq.mem_iff.1 hx)
    exact ⟨0, hS s hs, Int.le_refl _, Int.le_refl _⟩
  · rcases h01 s d h with h1 | ⟨h1, h2⟩
    · omega
    · subst h1; exact .inl (hq.mem_iff.2 (List.mem_map.2 ⟨s, h2, rfl⟩))
  · exact hq.nodup_iff.2 (List.pairwise_map.2 (hnd.imp (fun h e => h (congrArg Prod.snd e))))
theorem SInv.lt (h : SInv E S N K A D out q) (hK : 0 ≤ K) {s : Nat} {d : Int} (hd : out[s]? = some d) (h0 : 0 ≤ d) : d + (K * kB + 1) ≤ N * (K * kB + 1) := by
  obtain ⟨_, _, _, _, _, b⟩ := h.lab s d hd h0
  have hkB : kB = 1048576 := rfl
  have hc := cntF_le out
  rw [h.len] at hc
  have hW : 0 ≤ K * kB + 1 := by rw [hkB]; omega
  have := Int.mul_le_mul_of_nonneg_right (Int.ofNat_le.2 hc) hW
  exact Int.le_trans b this
structure Least (E : Nat → List (Nat × Int)) (S : List Nat) (N : Nat) (out : List Int) : Prop where
  len : out.length = N
  low : ∀ (s : Nat) d, out[s]? = some d → (-1 : Int) ≤ d
  way : ∀ (s : Nat) d, out[s]? = some d → 0 ≤ d → ∃ c n, Wk E S s c n ∧ d = c * kB + n ∧ 0 ≤ c ∧ n < N
  min : ∀ s c n, Wk E S s c n → ∃ d, out[s]? = some d ∧ 0 ≤ d ∧ d ≤ c * kB + n
theorem cnt_lt {out : List Int} {s : Nat} {a b : Int} (hs : out[s]? = some a) (h0 : 0 ≤ a) (hab : a < b) :
    out.countP (fun d => decide (0 ≤ d) && decide (d < a)) < out.countP (fun d => decide (0 ≤ d) && decide (d < b)) := by
  induction out generalizing s with
  | nil => simp at hs
  | cons x r ih =>
    have hle : r.countP (fun d => decide (0 ≤ d) && decide (d < a)) ≤ r.countP (fun d => decide (0 ≤ d) && decide (d < b)) :=
      List.countP_mono_left (fun d _ h => by simp at h ⊢; omega)
    cases s with
    | zero =>
      simp at hs; subst hs
      simp only [List.countP_cons]
      rw [if_neg (by simp), if_pos (by simp; omega)]
      omega
    | succ s =>
      simp at hs
      have := ih hs
      simp only [List.countP_cons]
      split
      · rename_i h; rw [if_pos (by simp at h ⊢; omega)]; omega
      · split <;> omega
theorem cnt_lt_len {out : List Int} {s : Nat} {a : Int} (hs : out[s]? = some a) : out.countP (fun d => decide (0 ≤ d) && decide (d < a)) < out.length := by
  induction out generalizing s with
  | nil => simp at hs
  | cons x r ih =>
    cases s with
    | zero =>
      simp at hs; subst hs
      rw [List.countP_cons, if_neg (by simp)]
      have := List.countP_le_length (l := r) (p := fun d => decide (0 ≤ d) && decide (d < x))
      simp only [List.length_cons]; omega
    | succ s =>
      simp at hs
      have := ih hs
      simp only [List.countP_cons, List.length_cons]
      split <;> omega
theorem SInv.least (h : SInv E S N K (fun _ => False) D out []) (hE : GoodE E N K) : Least E S N out := by
  have hkB : kB = 1048576 := rfl
  have hmin : ∀ s c n, Wk E S s c n → ∃ d, out[s]? = some d ∧ 0 ≤ d ∧ d ≤ c * kB + n := by
    intro s c n w
    induction w with
    | start hs => obtain ⟨d, h1, h2, h3⟩ := h.st _ hs; exact ⟨d, h1, h2, by simpa using h3⟩
    | step w he ih =>
      obtain ⟨d, h1, h2, h3⟩ := ih
      rcases h.rel _ d h1 h2 with h4 | h4 | h4
      · cases h4
      · exact h4.elim
      · obtain ⟨d', h5, h6, h7⟩ := h4 _ he
        exact ⟨d', h5, h6, by rw [Int.add_mul]; push_cast; simp only at h7; omega⟩
  have hway : ∀ (m : Nat) (s : Nat) (d : Int), out[s]? = some d → 0 ≤ d → d.toNat ≤ m → ∃ c n, Wk E S s c n ∧ d = c * kB + n ∧ 0 ≤ c ∧ n ≤ out.countP (fun e => decide (0 ≤ e) && decide (e < d)) := by
    intro m
    induction m with
    | zero =>
      intro s d hd h0 hm
      obtain rfl : d = 0 := by omega
      obtain ⟨c, n, w, e1, p1, _⟩ := h.lab s 0 hd h0
      exact ⟨c, n, w, e1, p1, by rw [hkB] at e1; omega⟩
    | succ m ih =>
      intro s d hd h0 hm
      obtain ⟨c, n, w, e1, p1, _⟩ := h.lab s d hd h0
      cases w with
      | start hs => exact ⟨0, 0, .start hs, by simpa using e1, Int.le_refl _, Nat.zero_le _⟩
      | @step s' c' n' _ k w he =>
        obtain ⟨d', h1, h2, h3⟩ := hmin _ _ _ w
        have hs' : s' < N := by rw [← h.len]; exact (List.getElem?_eq_some_iff.1 h1).1
        obtain ⟨_, k0, _⟩ := (hE s' hs').2 _ he
        simp only at k0
        rcases h.rel _ d' h1 h2 with h4 | h4 | h4
        · cases h4
        · exact h4.elim
        · obtain ⟨d2, h5, h6, h7⟩ := h4 _ he
          simp only at h5 h7
          rw [hd] at h5; injection h5 with h5; subst h5
          have hd' : d = d' + k * kB + 1 := by rw [Int.add_mul] at e1; push_cast at e1; omega
          have hlt : d' < d := by rw [hkB] at hd'; omega
          obtain ⟨c2, n2, w2, e2, p2, m2⟩ := ih s' d' h1 h2 (by omega)
          refine ⟨c2 + k, n2 + 1, w2.step he, by rw [Int.add_mul]; push_cast; omega, by omega, ?_⟩
          have := cnt_lt h1 h2 hlt
          omega
  refine ⟨h.len, h.low, fun s d hd h0 => ?_, hmin⟩
  obtain ⟨c, n, w, e1, p1, m1⟩ := hway _ s d hd h0 (Nat.le_refl _)
  exact ⟨c, n, w, e1, p1, by have := cnt_lt_len hd; rw [h.len] at this; omega⟩
end
end Go.Proofs.YtihjaehkdgdenaaGreatDoor

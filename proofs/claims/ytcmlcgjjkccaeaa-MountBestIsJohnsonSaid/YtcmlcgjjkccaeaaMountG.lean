/- Chapter 10: Johnson's order: the laws, plain. -/
import Derived.Test.YtcmlcgjjkccaeaaMountF
namespace Go.Proofs.Ytcmlcgjjkccaeaa
open Go Go.RowKit
set_option linter.unusedVariables false

def ints (n : Nat) : List Int := (List.range n).map (fun (i : Nat) => (i : Int))
theorem ints_len (n : Nat) : (ints n).length = n := by simp [ints]
theorem ints_nodup (n : Nat) : (ints n).Nodup := by
  unfold ints
  rw [List.nodup_iff_pairwise_ne, List.pairwise_map]
  exact (List.nodup_iff_pairwise_ne.1 List.nodup_range).imp (fun h e => h (by omega))
theorem S_insert_int {s v : List Int} {i : Nat} (hi : i ≤ s.length) (hv : v ≠ []) (hn : s.length + v.length ≤ 100000) {Q : List Int → List Int → Prop} (h : Q (s.take i ++ v ++ s.drop i) v) : M_insert_int s (i : Int) v Q := by
  refine ⟨⟨Int.natCast_nonneg _, by omega, hv, room_of (by omega) (by decide)⟩, ?_⟩
  rw [Int.toNat_natCast]; exact h
/-- where something is put into a list, looked for from its end on -/
theorem ins_loop {out : List Int} (hlen : out.length ≤ 100000) {F : (Int → Prop) → Int → Prop} (less : Int → Bool) {K : Nat → Prop}
    (hF : ∀ (X : Int → Prop) (n : Nat), n ≤ out.length → (∀ x, 0 < n → out[n - 1]? = some x → less x = true → X ((n - 1 : Nat) : Int)) → ((0 < n → ∀ x, out[n - 1]? = some x → less x = false) → K n) → F X (n : Int))
    (h : ∀ p, p ≤ out.length → (∀ x ∈ out.drop p, less x = true) → (0 < p → ∀ x, out[p - 1]? = some x → less x = false) → K p) : lp F (out.length : Int) := by
  refine lp_intro (fun s => ∃ n : Nat, s = (n : Int) ∧ n ≤ out.length ∧ ∀ x ∈ out.drop n, less x = true) (fun s => s.toNat) ⟨out.length, rfl, Nat.le_refl _, by simp⟩ (fun X s hI hX => ?_)
  obtain ⟨n, rfl, hn, hd⟩ := hI
  refine hF X n hn (fun x h0 hx hl => hX _ ⟨n - 1, rfl, by omega, fun y hy => ?_⟩ (by simp; omega)) (fun hh => h n hn hd hh)
  have e : out.drop (n - 1) = x :: out.drop n := by
    have hlt : n - 1 < out.length := by omega
    rw [List.drop_eq_getElem_cons hlt]
    rw [List.getElem?_eq_getElem hlt] at hx
    injection hx with hx
    rw [hx, show n - 1 + 1 = n by omega]
  rw [e] at hy
  rcases List.mem_cons.1 hy with hy | hy
  · rw [hy]; exact hl
  · exact hd y hy
theorem ins_pairwise {R : Int → Int → Prop} {out : List Int} {p : Nat} {x : Int} (hp : p ≤ out.length) (ho : out.Pairwise R) (h1 : ∀ y ∈ out.take p, R y x) (h2 : ∀ y ∈ out.drop p, R x y) : (out.take p ++ [x] ++ out.drop p).Pairwise R := by
  have h3 : (out.take p ++ out.drop p).Pairwise R := by rw [List.take_append_drop]; exact ho
  rw [List.pairwise_append] at h3
  rw [List.append_assoc, List.pairwise_append]
  refine ⟨h3.1, ?_, fun a ha b hb => ?_⟩
  · rw [List.singleton_append, List.pairwise_cons]; exact ⟨h2, h3.2.1⟩
  · rcases List.mem_cons.1 (by simpa using hb) with hb | hb
    · rw [hb]; exact h1 a ha
    · exact h3.2.2 a ha b hb
/-- all ahead of a place, where the one just ahead of it is not above -/
theorem take_le {f : Int → Int} {out : List Int} {p : Nat} {c : Int} (hp : p ≤ out.length) (ho : out.Pairwise (fun a b => f a ≤ f b)) (h : 0 < p → ∀ x, out[p - 1]? = some x → f x ≤ c) : ∀ y ∈ out.take p, f y ≤ c := by
  intro y hy
  obtain ⟨i, hi⟩ := List.getElem?_of_mem hy
  rw [List.getElem?_take] at hi
  split at hi
  · rename_i hip
    have hlt : p - 1 < out.length := by omega
    have hx := List.getElem?_eq_getElem hlt
    have hc := h (by omega) _ hx
    have hil : i < out.length := by omega
    rw [List.getElem?_eq_getElem hil] at hi
    injection hi with hi
    rcases Nat.lt_or_ge i (p - 1) with h1 | h1
    · have := List.pairwise_iff_getElem.1 ho i (p - 1) hil hlt h1
      rw [hi] at this; omega
    · have : i = p - 1 := by omega
      subst this; rw [← hi]; exact hc
  · cases hi
structure JohnI (l : List Batch) (k : Nat) (s : List Int × List Int) : Prop where
  out : ∀ x ∈ s.1, 0 ≤ x ∧ x < k ∧ bA l x < bB l x
  rest : ∀ x ∈ s.2, 0 ≤ x ∧ x < k ∧ bB l x ≤ bA l x
  upA : s.1.Pairwise (fun a b => bA l a ≤ bA l b)
  downB : s.2.Pairwise (fun a b => -bB l a ≤ -bB l b)
  perm : (s.1 ++ s.2).Perm (ints k)
theorem JohnI.len {l : List Batch} {k : Nat} {s : List Int × List Int} (h : JohnI l k s) : s.1.length + s.2.length = k := by
  have := h.perm.length_eq; rw [ints_len] at this; simpa using this
theorem S_Johnson {l : List Batch} (hn : l.length ≤ 1000) {Q : List Int → Prop} (h : ∀ o : List Int, o.Perm (ints l.length) → o.Pairwise (Best.ok (bA l) (bB l)) → Q o) : M_ref10_Johnson l Q := by
  unfold M_ref10_Johnson
  refine forIn0 (fun k s => JohnI l k s) ⟨by simp, by simp, by simp, by simp, by simp [ints]⟩ (fun k x s hx hI next hnx => ?_) (fun s hI => ?_)
  · have hk := lt_of_get hx
    have hlen := hI.len
    have hxA : x.A = bA l (k : Int) := by unfold bA; rw [Int.toNat_natCast, List.getD_eq_getElem?_getD, hx]; rfl
    have hxB : x.B = bB l (k : Int) := by unfold bB; rw [Int.toNat_natCast, List.getD_eq_getElem?_getD, hx]; rfl
    have hget : ∀ y : Int, 0 ≤ y → y < k → l[y.toNat]? = some (l.getD y.toNat default) := fun y h0 h1 => by
      rw [List.getD_eq_getElem?_getD, List.getElem?_eq_getElem (by omega)]; rfl
    have hr : ints (k + 1) = (ints k) ++ [(k : Int)] := by unfold ints; rw [List.range_succ]; simp
    unfold M_ref10_Johnson_L1
    refine cnd_of (fun e => ?_) (fun e => ?_)
    · have hAB : bA l (k : Int) < bB l (k : Int) := by rw [← hxA, ← hxB]; simpa using e
      refine ins_loop (by omega) (fun y => decide (x.A < bA l y)) (K := fun p => M_insert_int s.1 (p : Int) [(k : Int)] fun y1 z1 => next (y1, s.2)) (fun X n hnl hX hK => ?_) (fun p hp h1 h2 => ?_)
      · unfold M_ref10_Johnson_L2 M_ref10_Johnson_k3
        refine cnd_of (fun e2 => ?_) (fun e2 => cnd_of (fun e => by cases e) (fun _ => hK (fun h0 => ?_)))
        · have h0 : 0 < n := by simp at e2; omega
          have hw : w64 ((n : Int) - 1) = ((n - 1 : Nat) : Int) := by rw [w64_id] <;> omega
          have hlt : n - 1 < s.1.length := by omega
          rw [hw]
          refine idx_nat (List.getElem?_eq_getElem hlt) ?_
          have hy := hI.out _ (List.getElem_mem hlt)
          refine ⟨hy.1, _, hget _ hy.1 hy.2.1, ?_⟩
          refine cnd_of (fun e3 => hX _ h0 (List.getElem?_eq_getElem hlt) e3) (fun e3 => hK (fun _ z hz => ?_))
          rw [List.getElem?_eq_getElem hlt] at hz; injection hz with hz; rw [← hz]; exact e3
        · simp at e2; omega
      · refine S_insert_int hp (by simp) (by simp; omega) (hnx _ ⟨fun y hy => ?_, fun y hy => ?_, ?_, hI.downB, ?_⟩)
        · have : y ∈ s.1 ∨ y = (k : Int) := by
            rcases List.mem_append.1 hy with hy | hy
            · rcases List.mem_append.1 hy with hy | hy
              · exact .inl (List.mem_of_mem_take hy)
              · exact .inr (by simpa using hy)
            · exact .inl (List.mem_of_mem_drop hy)
          rcases this with h | h
          · have := hI.out y h; omega
          · subst h; omega
        · have := hI.rest y hy; omega
        · refine ins_pairwise hp hI.upA (take_le hp hI.upA (fun h0 z hz => ?_)) (fun y hy => ?_)
          · have := h2 h0 z hz; simp at this; omega
          · have := h1 y hy; simp at this; omega
        · rw [hr]
          refine List.Perm.trans ?_ (List.Perm.append_right _ hI.perm)
          have hp2 : (s.1.take p ++ [(k : Int)] ++ s.1.drop p).Perm (s.1 ++ [(k : Int)]) := by
            have h3 : (s.1.take p ++ [(k : Int)] ++ s.1.drop p).Perm (s.1.take p ++ s.1.drop p ++ [(k : Int)]) := by
              rw [List.append_assoc, List.append_assoc]; exact List.Perm.append_left _ List.perm_append_comm
            rwa [List.take_append_drop] at h3
          refine (List.Perm.append_right s.2 hp2).trans ?_
          show ((s.1 ++ [(k : Int)]) ++ s.2).Perm ((s.1 ++ s.2) ++ [(k : Int)])
          rw [List.append_assoc, List.append_assoc]; exact List.Perm.append_left _ List.perm_append_comm
    · have hAB : bB l (k : Int) ≤ bA l (k : Int) := by rw [← hxA, ← hxB]; simpa using e
      refine ins_loop (by omega) (fun y => decide (x.B > bB l y)) (K := fun p => M_insert_int s.2 (p : Int) [(k : Int)] fun y1 z1 => next (s.1, y1)) (fun X n hnl hX hK => ?_) (fun p hp h1 h2 => ?_)
      · unfold M_ref10_Johnson_L3 M_ref10_Johnson_k5
        refine cnd_of (fun e2 => ?_) (fun e2 => cnd_of (fun e => by cases e) (fun _ => hK (fun h0 => ?_)))
        · have h0 : 0 < n := by simp at e2; omega
          have hw : w64 ((n : Int) - 1) = ((n - 1 : Nat) : Int) := by rw [w64_id] <;> omega
          have hlt : n - 1 < s.2.length := by omega
          rw [hw]
          refine idx_nat (List.getElem?_eq_getElem hlt) ?_
          have hy := hI.rest _ (List.getElem_mem hlt)
          refine ⟨hy.1, _, hget _ hy.1 hy.2.1, ?_⟩
          refine cnd_of (fun e3 => hX _ h0 (List.getElem?_eq_getElem hlt) e3) (fun e3 => hK (fun _ z hz => ?_))
          rw [List.getElem?_eq_getElem hlt] at hz; injection hz with hz; rw [← hz]; exact e3
        · simp at e2; omega
      · refine S_insert_int hp (by simp) (by simp; omega) (hnx _ ⟨fun y hy => ?_, fun y hy => ?_, hI.upA, ?_, ?_⟩)
        · have := hI.out y hy; omega
        · have : y ∈ s.2 ∨ y = (k : Int) := by
            rcases List.mem_append.1 hy with hy | hy
            · rcases List.mem_append.1 hy with hy | hy
              · exact .inl (List.mem_of_mem_take hy)
              · exact .inr (by simpa using hy)
            · exact .inl (List.mem_of_mem_drop hy)
          rcases this with h | h
          · have := hI.rest y h; omega
          · subst h; omega
        · refine ins_pairwise hp hI.downB (take_le (f := fun y => -bB l y) hp hI.downB (fun h0 z hz => ?_)) (fun y hy => ?_)
          · have := h2 h0 z hz; simp at this; omega
          · have := h1 y hy; simp at this; omega
        · rw [hr]
          refine List.Perm.trans ?_ (List.Perm.append_right _ hI.perm)
          have hp2 : (s.2.take p ++ [(k : Int)] ++ s.2.drop p).Perm (s.2 ++ [(k : Int)]) := by
            have h3 : (s.2.take p ++ [(k : Int)] ++ s.2.drop p).Perm (s.2.take p ++ s.2.drop p ++ [(k : Int)]) := by
              rw [List.append_assoc, List.append_assoc]; exact List.Perm.append_left _ List.perm_append_comm
            rwa [List.take_append_drop] at h3
          refine (List.Perm.append_left s.1 hp2).trans ?_
          show (s.1 ++ (s.2 ++ [(k : Int)])).Perm ((s.1 ++ s.2) ++ [(k : Int)])
          rw [List.append_assoc]
  · have hlen := hI.len
    refine ⟨room_of (by rw [List.length_append]; omega) (by omega), h _ hI.perm ?_⟩
    rw [List.pairwise_append]
    refine ⟨hI.upA.imp_of_mem (fun {a b} ha hb hab => ?_), hI.downB.imp_of_mem (fun {a b} ha hb hab => ?_), fun a ha b hb => ?_⟩
    · have := hI.out a ha; unfold Best.ok; omega
    · have := hI.rest a ha; have := hI.rest b hb; unfold Best.ok; omega
    · have := hI.out a ha; have := hI.rest b hb; unfold Best.ok; omega
theorem isP_of_perm {n : Nat} {o : List Int} (h : o.Perm (ints n)) : Best.IsP n o ∧ o.length = n := by
  refine ⟨⟨h.nodup_iff.2 (ints_nodup n), fun x hx => ?_⟩, by have := h.length_eq; rwa [ints_len] at this⟩
  obtain ⟨i, hi, rfl⟩ := List.mem_map.1 (h.subset hx)
  have := List.mem_range.1 hi; omega
theorem nat_perm : ∀ (n : Nat) (m : List Nat), m.Nodup → (∀ x ∈ m, x < n) → m.length = n → m.Perm (List.range n)
  | 0, m, _, _, hm => by rw [List.eq_nil_of_length_eq_zero hm]; exact List.Perm.refl _
  | n + 1, m, hd, hlt, hm => by
    have hnm : n ∈ m := by
      refine Decidable.byContradiction (fun hc => ?_)
      have := nodup_len n m hd (fun x hx => by
        have h5 := hlt x hx
        have hxn : x ≠ n := fun e => hc (e ▸ hx)
        omega)
      omega
    have hp := nat_perm n (m.erase n) (hd.erase n) (fun x hx => by
      have h3 := (hd.mem_erase_iff).1 hx
      have := hlt x h3.2; have := h3.1; omega) (by rw [List.length_erase_of_mem hnm]; omega)
    rw [List.range_succ]
    exact (List.perm_cons_erase hnm).trans ((List.Perm.cons n hp).trans (by
      have := List.perm_append_comm (l₁ := [n]) (l₂ := List.range n); simpa using this))
theorem perm_ints {n : Nat} {o : List Int} (h : Best.IsP n o ∧ o.length = n) : o.Perm (ints n) := by
  have h1 : (o.map Int.toNat).Nodup := by
    rw [List.nodup_iff_pairwise_ne, List.pairwise_map]
    refine List.Pairwise.imp_of_mem (fun {x y} hx hy hne => ?_) h.1.1
    have := h.1.2 x hx; have := h.1.2 y hy; omega
  have h2 := nat_perm n (o.map Int.toNat) h1 (fun x hx => by
    obtain ⟨y, hy, rfl⟩ := List.mem_map.1 hx
    have := h.1.2 y hy; omega) (by simpa using h.2)
  have h3 := h2.map (fun (i : Nat) => (i : Int))
  rw [List.map_map] at h3
  have h4 : o.map ((fun (i : Nat) => (i : Int)) ∘ Int.toNat) = o := by
    refine (List.map_congr_left (fun x hx => ?_)).trans (List.map_id o)
    have := h.1.2 x hx
    show ((x.toNat : Nat) : Int) = x
    omega
  rw [h4] at h3
  exact h3
theorem perm_of_isP {n : Nat} {o p : List Int} (ho : Best.IsP n o ∧ o.length = n) (hp : p.Perm (ints n)) : p.Perm o := hp.trans (perm_ints ho).symm
theorem law_Johnson_true (l : List Batch) (order : List Int) (hf : Fits.fits l) : M_law_Johnson l order (· = true) := by
  unfold M_law_Johnson
  have aw : M_awake (fun y => y = true) := S_awake rfl
  refine S_mount_Best hf ?_
  unfold bestOut
  split
  · rename_i e
    have : (lotsFault l 8 != 0) = true := by simpa using e
    simp only [this, cnd_true, beq_self_eq_true]
    exact cnd_of (fun _ => aw) (fun e => by simp at e)
  · rename_i e
    have e8 : lotsFault l 8 = 0 := Decidable.not_not.1 e
    obtain ⟨hl, hok⟩ := lots_ok e8
    have e200 : lotsFault l 200 = 0 := by
      unfold lotsFault at e8 ⊢
      rw [if_neg (by omega)]
      rw [if_neg (by omega)] at e8
      exact e8
    simp only [bne_self_eq_false, cnd_false]
    have hmn : ∀ o, 0 ≤ msp l o := fun o => (Best.fold_up (fun k => (bAB_ok hok k).1) (fun k => (bAB_ok hok k).2.2.1) o (s := (0, 0))).2
    have hmem : ∀ o, Best.IsP l.length o ∧ o.length = l.length → o ∈ Best.comps l.length l.length [] := fun o ho => by
      have := @Best.mem_comps l.length l.length [] o (by simpa using ho.1) (by simpa using ho.2) (by omega)
      simpa using this
    obtain ⟨h1, h2, _⟩ := @Best.see_least (msp l) hmn (Best.comps l.length l.length []) ([], -1) (.inl (by decide))
    have hne : Best.comps l.length l.length [] ≠ [] := by
      have := hmem (ints l.length) (isP_of_perm (List.Perm.refl _))
      intro e; rw [e] at this; simp at this
    have h1 := h1 (.inl hne)
    have hin : ((Best.comps l.length l.length []).foldl (Best.see (msp l)) ([], -1)).1 ∈ Best.comps l.length l.length [] := by
      rcases h1.2 with h | ⟨_, h⟩
      · exact h
      · simp at h
    generalize (Best.comps l.length l.length []).foldl (Best.see (msp l)) ([], -1) = r at *
    have hrP := Best.comps_isP (isP_nil _) hin
    have hspan : ∀ o, Best.IsP l.length o ∧ o.length = l.length → spanOut l o = (msp l o, 0) := fun o ho => by
      unfold spanOut; rw [if_neg (by rw [e200]; decide), if_pos ho]
    refine S_mount_Makespan hf ?_
    rw [hspan r.1 hrP]
    refine S_Johnson (by omega) (fun J hJ hJp => ?_)
    have hJP := isP_of_perm hJ
    refine S_mount_Makespan hf ?_
    rw [hspan J hJP]
    have hle1 := h2 J (hmem J hJP)
    have hle2 : msp l J ≤ msp l r.1 := Best.johnson J hJp r.1 (0, 0) (perm_of_isP hrP hJ)
    have hJr : r.2 = msp l J := by have := h1.1; omega
    simp only [bne_self_eq_false, cnd_false]
    rw [← h1.1]
    simp only [bne_self_eq_false, cnd_false]
    rw [show (r.2 != msp l J) = false by simp [hJr]]
    simp only [cnd_false]
    refine S_awake ?_
    unfold M_law_Johnson_k1
    simp only [Bool.not_true, cnd_false]
    refine S_mount_Makespan hf ?_
    unfold spanOut
    rw [if_neg (by rw [e200]; decide)]
    split
    · rename_i ho
      simp only [bne_self_eq_false, cnd_false]
      exact decide_eq_true (h2 order (hmem order ho))
    · simp
end Go.Proofs.Ytcmlcgjjkccaeaa

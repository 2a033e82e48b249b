/- Chapter 10: the best order: the laws, plain. -/
import Derived.Test.YtcmlcgjjkccaeaaMountD
import Derived.Test.YtcmlcgjjkccaeaaFind
namespace Go.Proofs.Ytcmlcgjjkccaeaa
open Go Go.RowKit
set_option linter.unusedVariables false
theorem S_netlist_IsWord {s : Str} (hs : Fits.fits s) {Q : Bool → Prop} (h : Q (isWord s)) : M_netlist_IsWord s Q := by
  unfold M_netlist_IsWord
  refine word_loop hs (Q := Q) (fun X n hX => ?_) h
  unfold M_netlist_IsWord_L1 M_netlist_IsWord_k2
  refine cnd_mono hX (fun hi => ?_) (fun hq => ?_)
  · obtain ⟨h0, x, hx, hc⟩ := hi
    refine ⟨h0, x, hx, ?_⟩
    unfold badByte at hc
    cases h1 : decide ((x.toNat : Int) < 65) <;> cases h2 : decide ((x.toNat : Int) > 90) <;> cases h3 : decide ((x.toNat : Int) < 97) <;> cases h4 : decide ((x.toNat : Int) > 122) <;> cases h5 : decide ((x.toNat : Int) < 48) <;> cases h6 : decide ((x.toNat : Int) > 57) <;>
      simp only [h1, h2, h3, h4, h5, h6, Bool.or_true, Bool.true_or, Bool.or_false, Bool.false_and, Bool.true_and, Bool.and_true, Bool.and_false, cnd_true, cnd_false] at hc ⊢ <;> exact hc
  · refine cnd_of (fun e => ?_) (fun e => ?_)
    · have e1 : 1 ≤ s.length := by simp at e; omega
      have : decide ((s.length : Int) ≤ 40) = decide (s.length ≤ 40) := by congr 1; exact propext ⟨fun h => by omega, fun h => by omega⟩
      rw [this]; simpa [e1] using hq
    · have e1 : ¬ 1 ≤ s.length := by simp at e; omega
      simpa [e1] using hq
theorem S_ref10_isWord {s : Str} (hs : Fits.fits s) {Q : Bool → Prop} (h : Q (isWord s)) : M_ref10_isWord s Q := by
  unfold M_ref10_isWord
  refine word_loop hs (Q := Q) (fun X n hX => ?_) h
  unfold M_ref10_isWord_L1 M_ref10_isWord_k2
  refine cnd_mono hX (fun hi => ?_) (fun hq => ?_)
  · obtain ⟨h0, x, hx, hc⟩ := hi
    refine ⟨h0, x, hx, ?_⟩
    unfold badByte at hc
    cases h1 : decide ((x.toNat : Int) < 65) <;> cases h2 : decide ((x.toNat : Int) > 90) <;> cases h3 : decide ((x.toNat : Int) < 97) <;> cases h4 : decide ((x.toNat : Int) > 122) <;> cases h5 : decide ((x.toNat : Int) < 48) <;> cases h6 : decide ((x.toNat : Int) > 57) <;>
      simp only [h1, h2, h3, h4, h5, h6, Bool.or_true, Bool.true_or, Bool.or_false, Bool.false_and, Bool.true_and, Bool.and_true, Bool.and_false, cnd_true, cnd_false] at hc ⊢ <;> exact hc
  · have : within (s.length : Int) 1 40 = (decide (1 ≤ s.length) && decide (s.length ≤ 40)) := by
      unfold within; congr 1 <;> (congr 1; exact propext ⟨fun h => by omega, fun h => by omega⟩)
    rw [this]; exact hq
namespace Best
def st (A B : Int → Int) (s : Int × Int) (k : Int) : Int × Int := (s.1 + A k, max (s.1 + A k) s.2 + B k)
def ms (A B : Int → Int) (o : List Int) : Int := (o.foldl (st A B) (0, 0)).2
theorem st_mono {A B : Int → Int} {s t : Int × Int} (k : Int) (h1 : s.1 ≤ t.1) (h2 : s.2 ≤ t.2) : (st A B s k).1 ≤ (st A B t k).1 ∧ (st A B s k).2 ≤ (st A B t k).2 := by
  unfold st; constructor <;> simp only <;> omega
theorem fold_mono {A B : Int → Int} (o : List Int) : ∀ {s t : Int × Int}, s.1 ≤ t.1 → s.2 ≤ t.2 → (o.foldl (st A B) s).1 ≤ (o.foldl (st A B) t).1 ∧ (o.foldl (st A B) s).2 ≤ (o.foldl (st A B) t).2 := by
  induction o with
  | nil => exact fun h1 h2 => ⟨h1, h2⟩
  | cons k o ih => exact fun h1 h2 => ih (st_mono k h1 h2).1 (st_mono k h1 h2).2
theorem fold_up {A B : Int → Int} (hA : ∀ k, 0 ≤ A k) (hB : ∀ k, 0 ≤ B k) (o : List Int) : ∀ {s : Int × Int}, s.1 ≤ (o.foldl (st A B) s).1 ∧ s.2 ≤ (o.foldl (st A B) s).2 := by
  induction o with
  | nil => intro s; exact ⟨Int.le_refl _, Int.le_refl _⟩
  | cons k o ih =>
    intro s
    have h := @ih (st A B s k)
    have h1 : s.1 ≤ (st A B s k).1 := by unfold st; have := hA k; simp only; omega
    have h2 : s.2 ≤ (st A B s k).2 := by unfold st; have := hB k; simp only; omega
    exact ⟨Int.le_trans h1 h.1, Int.le_trans h2 h.2⟩
theorem ms_prefix {A B : Int → Int} (hA : ∀ k, 0 ≤ A k) (hB : ∀ k, 0 ≤ B k) (o r : List Int) : ms A B o ≤ ms A B (o ++ r) := by
  unfold ms; rw [List.foldl_append]; exact (fold_up hA hB r).2

/-- i may go ahead of j -/
def ok (A B : Int → Int) (i j : Int) : Prop := min (A i) (B j) ≤ min (A j) (B i)
theorem swap2 {A B : Int → Int} {i j : Int} (h : ok A B i j) (s : Int × Int) : (st A B (st A B s i) j).1 ≤ (st A B (st A B s j) i).1 ∧ (st A B (st A B s i) j).2 ≤ (st A B (st A B s j) i).2 := by
  unfold ok at h; unfold st; constructor <;> simp only <;> omega
/-- what may go ahead of all goes to the front at no loss -/
theorem front {A B : Int → Int} (j : Int) : ∀ (p q : List Int) (s : Int × Int), (∀ x ∈ p, ok A B j x) →
    ((j :: (p ++ q)).foldl (st A B) s).2 ≤ ((p ++ j :: q).foldl (st A B) s).2
  | [], q, s, _ => Int.le_refl _
  | x :: p, q, s, h => by
    have h1 : ((j :: x :: (p ++ q)).foldl (st A B) s).2 ≤ ((x :: j :: (p ++ q)).foldl (st A B) s).2 := by
      simp only [List.foldl_cons]
      have := swap2 (h x (List.mem_cons_self ..)) s
      exact (fold_mono (p ++ q) this.1 this.2).2
    have h2 := front j p q (st A B s x) (fun y hy => h y (List.mem_cons_of_mem _ hy))
    simp only [List.cons_append, List.foldl_cons] at h1 h2 ⊢
    exact Int.le_trans h1 h2
theorem johnson {A B : Int → Int} : ∀ (J : List Int), J.Pairwise (ok A B) → ∀ (o : List Int) (s : Int × Int), J.Perm o → (J.foldl (st A B) s).2 ≤ (o.foldl (st A B) s).2
  | [], _, o, s, hp => by rw [List.nil_perm.1 hp]; exact Int.le_refl _
  | j :: J, hJ, o, s, hp => by
    have hj : j ∈ o := hp.subset (List.mem_cons_self ..)
    obtain ⟨p, q, rfl⟩ := List.append_of_mem hj
    have hp2 : J.Perm (p ++ q) := (List.perm_cons j).1 (hp.trans List.perm_middle)
    rw [List.pairwise_cons] at hJ
    have h1 := front (A := A) (B := B) j p q s (fun x hx => hJ.1 x (hp2.mem_iff.2 (List.mem_append_left _ hx)))
    have h2 := johnson J hJ.2 (p ++ q) (st A B s j) hp2
    exact Int.le_trans h2 h1

/-! all orders that begin so, the least ones first -/
def comps (n : Nat) : Nat → List Int → List (List Int)
  | 0, b => if b.length = n then [b] else []
  | f + 1, b => if b.length = n then [b] else (List.range n).flatMap fun (k : Nat) => if b.contains ((k : Nat) : Int) then [] else comps n f (b ++ [((k : Nat) : Int)])
theorem comps_pre {n : Nat} : ∀ {f : Nat} {b o : List Int}, o ∈ comps n f b → ∃ r, o = b ++ r
  | 0, b, o, h => by
    unfold comps at h; split at h
    · exact ⟨[], by simp at h; simp [h]⟩
    · simp at h
  | f + 1, b, o, h => by
    unfold comps at h; split at h
    · exact ⟨[], by simp at h; simp [h]⟩
    · obtain ⟨k, _, hk⟩ := List.mem_flatMap.1 h
      split at hk
      · simp at hk
      · obtain ⟨r, hr⟩ := comps_pre hk
        exact ⟨(k : Int) :: r, by rw [hr]; simp⟩
def IsP (n : Nat) (o : List Int) : Prop := o.Nodup ∧ ∀ x ∈ o, 0 ≤ x ∧ x < n
theorem comps_isP {n : Nat} : ∀ {f : Nat} {b o : List Int}, IsP n b → o ∈ comps n f b → IsP n o ∧ o.length = n
  | 0, b, o, hb, h => by
    unfold comps at h; split at h
    · simp at h; subst h; exact ⟨hb, by assumption⟩
    · simp at h
  | f + 1, b, o, hb, h => by
    unfold comps at h; split at h
    · simp at h; subst h; exact ⟨hb, by assumption⟩
    · obtain ⟨k, hkr, hk⟩ := List.mem_flatMap.1 h
      split at hk
      · simp at hk
      · rename_i hc
        refine comps_isP ⟨?_, ?_⟩ hk
        · rw [List.nodup_append]; refine ⟨hb.1, by simp, fun x hx y hy => ?_⟩
          simp at hy; subst hy; intro e; subst e; simp at hc; exact hc hx
        · intro x hx
          rcases List.mem_append.1 hx with hx | hx
          · exact hb.2 x hx
          · simp at hx; subst hx; have := List.mem_range.1 hkr; omega
theorem mem_comps {n : Nat} : ∀ {f : Nat} {b r : List Int}, IsP n (b ++ r) → (b ++ r).length = n → r.length ≤ f → b ++ r ∈ comps n f b
  | 0, b, r, _, hn, hf => by
    have : r = [] := List.eq_nil_of_length_eq_zero (by omega)
    subst this; unfold comps; simp at hn ⊢; exact hn
  | f + 1, b, [], _, hn, hf => by unfold comps; rw [List.append_nil] at hn ⊢; rw [if_pos hn]; exact List.mem_cons_self ..
  | f + 1, b, x :: r, hp, hn, hf => by
    unfold comps
    have : ¬ b.length = n := by simp at hn; omega
    rw [if_neg this, List.mem_flatMap]
    have hx := hp.2 x (by simp)
    refine ⟨x.toNat, List.mem_range.2 (by have := hx.1; have := hx.2; omega), ?_⟩
    have hxx : ((x.toNat : Nat) : Int) = x := by omega
    rw [hxx]
    have hnb : ¬ x ∈ b := by
      intro hb
      have := (List.nodup_append.1 hp.1).2.2 x hb x (List.mem_cons_self ..)
      exact this rfl
    rw [if_neg (by simpa using hnb)]
    have := @mem_comps n f (b ++ [x]) r (by simpa using hp) (by simpa using hn) (by simp at hf; omega)
    simpa using this
/-- a search looks at one order more -/
def see (m : List Int → Int) (s : List Int × Int) (o : List Int) : List Int × Int := if s.2 < 0 ∨ m o < s.2 then (o, m o) else s
theorem see_idle {m : List Int → Int} {s : List Int × Int} (h0 : 0 ≤ s.2) : ∀ {L : List (List Int)}, (∀ o ∈ L, s.2 ≤ m o) → L.foldl (see m) s = s
  | [], _ => rfl
  | o :: L, h => by
    have : see m s o = s := by unfold see; have := h o (List.mem_cons_self ..); rw [if_neg (by omega)]
    rw [List.foldl_cons, this]; exact see_idle h0 (fun p hp => h p (List.mem_cons_of_mem _ hp))
theorem see_least {m : List Int → Int} (hm : ∀ o, 0 ≤ m o) : ∀ {L : List (List Int)} {s : List Int × Int}, (s.2 < 0 ∨ (s.2 = m s.1)) →
    let r := L.foldl (see m) s
    (L ≠ [] ∨ 0 ≤ s.2 → r.2 = m r.1 ∧ (r.1 ∈ L ∨ (r.1 = s.1 ∧ 0 ≤ s.2))) ∧ (∀ o ∈ L, r.2 ≤ m o) ∧ (0 ≤ s.2 → r.2 ≤ s.2)
  | [], s, h => by
    refine ⟨fun h1 => ?_, fun o ho => by simp at ho, fun _ => Int.le_refl _⟩
    rcases h1 with h1 | h1
    · exact absurd rfl h1
    · refine ⟨?_, .inr ⟨rfl, h1⟩⟩; rcases h with h | h
      · simp only [List.foldl_nil]; omega
      · exact h
  | o :: L, s, h => by
    have hs : (see m s o).2 = m (see m s o).1 := by
      unfold see; split
      · rfl
      · rcases h with h | h
        · rename_i hn; omega
        · exact h
    have h0 : 0 ≤ (see m s o).2 := by rw [hs]; exact hm _
    obtain ⟨h1, h2, h3⟩ := @see_least m hm L (see m s o) (.inr hs)
    have h1 := h1 (.inr h0); have h3 := h3 h0
    have hso : (see m s o).2 ≤ m o := by unfold see; split; exact Int.le_refl _; omega
    refine ⟨fun _ => ⟨h1.1, ?_⟩, ?_, fun hs0 => ?_⟩
    · rcases h1.2 with h | ⟨h, _⟩
      · exact .inl (List.mem_cons_of_mem _ h)
      · rw [List.foldl_cons, h]; unfold see; split
        · exact .inl (List.mem_cons_self ..)
        · exact .inr ⟨rfl, by omega⟩
    · intro p hp
      rcases List.mem_cons.1 hp with hp | hp
      · subst hp; exact Int.le_trans h3 hso
      · exact h2 p hp
    · refine Int.le_trans h3 ?_
      unfold see; split
      · simp only; omega
      · exact Int.le_refl _
end Best

instance (n : Nat) (o : List Int) : Decidable (Best.IsP n o) := by unfold Best.IsP; infer_instance
/-! ### lots -/
def lotBad (l : List Batch) (k : Nat) (x : Batch) : Int :=
  if isWord x.Name = false then 5 else if within x.A 0 1000000 = false ∨ within x.B 0 1000000 = false then 1 else if (l.take k).any (fun y => y.Name == x.Name) = true then 7 else 0
def lotsFault (l : List Batch) (most : Int) : Int := if (l.length : Int) > most then 2 else firstBad (lotBad l) l 0
theorem lot_step {l : List Batch} {Q : Int → Prop} {k : Nat} {x : Batch} {next : Prop} {T : Prop} (h1 : lotBad l k x ≠ 0 → Q (lotBad l k x)) (h0 : lotBad l k x = 0 → next)
    {W : Str → (Bool → Prop) → Prop} (hW : ∀ {s : Str} (hs : Fits.fits s) {Q : Bool → Prop} (h : Q (isWord s)), W s Q) (hx : Fits.fits x.Name) {k2 : Bool → Prop}
    (e2 : ∀ c, cnd c (Q 1) T → k2 c) (hT : (if (l.take k).any (fun y => y.Name == x.Name) = true then Q 7 else next) → T) :
    W x.Name fun y1 => cnd (!y1) (Q 5) (cnd (!(within x.A 0 1000000)) (k2 true) (k2 (!(within x.B 0 1000000)))) := by
  refine hW hx ?_
  unfold lotBad at h1 h0
  cases a : isWord x.Name
  · simp only [a, if_true] at h1; simpa using h1 (by decide)
  cases b1 : within x.A 0 1000000
  · simp only [a, b1, if_true, Bool.true_eq_false, if_false, true_or] at h1; simp only [Bool.not_true, Bool.not_false, cnd_true, cnd_false]; exact e2 _ (cnd_of (fun _ => h1 (by decide)) (fun e => by cases e))
  cases b2 : within x.B 0 1000000
  · simp only [a, b1, b2, if_true, Bool.true_eq_false, if_false, or_true] at h1; simp only [Bool.not_true, Bool.not_false, cnd_true, cnd_false]; exact e2 _ (cnd_of (fun _ => h1 (by decide)) (fun e => by cases e))
  simp only [Bool.not_true, cnd_false]
  simp only [a, b1, b2, Bool.true_eq_false, if_false, or_self] at h1 h0
  refine e2 _ (cnd_of (fun e => by cases e) (fun _ => hT ?_))
  split
  · rename_i e; rw [if_pos e] at h1; exact h1 (by decide)
  · rename_i e; rw [if_neg e] at h0; exact h0 rfl
theorem take_any_succ {α : Type} (l : List α) (k : Nat) (x : α) (hx : l[k]? = some x) (p : α → Bool) : (l.take (k + 1)).any p = ((l.take k).any p || p x) := by
  rw [List.take_add_one, hx, List.any_append]; simp
theorem S_mount_checkLots {l : List Batch} {most : Int} (hf : Fits.fits l) {Q : Int → Prop} (h : Q (lotsFault l most)) : M_mount_checkLots l most Q := by
  unfold M_mount_checkLots
  unfold lotsFault at h
  refine cnd_of (fun e => ?_) (fun e => ?_)
  · rw [if_pos (by simpa using e)] at h; exact h
  · rw [if_neg (by simpa using e)] at h
    refine forIn0 (fun k m => (∀ j y, j < k → l[j]? = some y → lotBad l j y = 0) ∧ ∀ p, (mget m p).getD false = (l.take k).any (fun y => y.Name == p)) ⟨fun j y hj => by omega, fun p => by simp [mget]⟩ (fun k x m hx hI next hn => ?_) (fun m hI => ?_)
    · refine lot_step (l := l) (k := k) (next := next (mput m x.Name true)) (fun hne => ?_) (fun h0 => hn _ ⟨fun j y hj hy => ?_, fun p => ?_⟩) (W := M_netlist_IsWord) S_netlist_IsWord (hf x (List.mem_of_getElem? hx)).1 (k2 := M_mount_checkLots_k2 Q x m next) (fun c hc => hc) (fun hT => ?_)
      · have h2 := firstBad_at (f := lotBad l) l 0 k x (fun j y hj hy => by rw [Nat.zero_add]; exact hI.1 j y hj hy) hx (by rw [Nat.zero_add]; exact hne)
        rw [Nat.zero_add] at h2
        rw [h2] at h; exact h
      · rcases Nat.lt_or_ge j k with hlt | hge
        · exact hI.1 j y hlt hy
        · have : j = k := by omega
          subst this; rw [hx] at hy; injection hy with hy; subst hy; exact h0
      · rw [mget_put, take_any_succ l k x hx, ← hI.2 p]
        by_cases hp : x.Name = p
        · rw [if_pos hp]; simp [hp]
        · rw [if_neg hp]; simp [hp]
      · rw [hI.2 x.Name]
        exact cnd_iff.2 hT
    · have := firstBad_none l 0 (f := lotBad l) (fun j y hy => by rw [Nat.zero_add]; exact hI.1 j y (lt_of_get hy) hy)
      rw [this] at h; exact h
theorem S_ref10_checkBatches {l : List Batch} {most : Int} (hf : Fits.fits l) {Q : Int → Prop} (h : Q (lotsFault l most)) : M_ref10_checkBatches l most Q := by
  unfold M_ref10_checkBatches
  unfold lotsFault at h
  refine cnd_of (fun e => ?_) (fun e => ?_)
  · rw [if_pos (by simpa using e)] at h; exact h
  · rw [if_neg (by simpa using e)] at h
    refine forIn_check (lotBad l) (fun k x next hx h1 h0 => ?_) (Q := Q) (by split <;> rename_i e; rw [e] at h; exact h; exact h)
    refine lot_step (l := l) (k := k) (next := next ()) h1 h0 (W := M_ref10_isWord) S_ref10_isWord (hf x (List.mem_of_getElem? hx)).1 (k2 := M_ref10_checkBatches_k2 l Q k x (next ())) (fun c hc => hc) (fun hT => ⟨⟨Int.le_refl _, Int.natCast_nonneg _, ?_⟩, ?_⟩)
    · have := lt_of_get hx; omega
    · have es : seg l (0 : Int) (k : Int) = l.take k := by simp [seg]
      rw [es]
      exact forIn_any (fun y : Batch => y.Name == x.Name) (fun j y nx hq => cnd_iff.2 hq) (l.take k) 0 hT
/-- lots that are right -/
theorem lots_ok {l : List Batch} {most : Int} (h : lotsFault l most = 0) : (l.length : Int) ≤ most ∧ ∀ x ∈ l, 0 ≤ x.A ∧ x.A ≤ 1000000 ∧ 0 ≤ x.B ∧ x.B ≤ 1000000 := by
  unfold lotsFault at h
  split at h
  · cases h
  · rename_i hl
    refine ⟨by omega, fun x hx => ?_⟩
    obtain ⟨i, hi⟩ := List.getElem?_of_mem hx
    have := firstBad_ok h i x hi
    unfold lotBad at this
    split at this
    · cases this
    · split at this
      · cases this
      · rename_i hw
        unfold within at hw
        simp at hw
        omega
/-! ### makespans -/
def bA (l : List Batch) (k : Int) : Int := (l.getD k.toNat default).A
def bB (l : List Batch) (k : Int) : Int := (l.getD k.toNat default).B
def msp (l : List Batch) (o : List Int) : Int := Best.ms (bA l) (bB l) o
def LotsOk (l : List Batch) : Prop := ∀ x ∈ l, 0 ≤ x.A ∧ x.A ≤ 1000000 ∧ 0 ≤ x.B ∧ x.B ≤ 1000000
theorem bAB_ok {l : List Batch} (hl : LotsOk l) (k : Int) : 0 ≤ bA l k ∧ bA l k ≤ 1000000 ∧ 0 ≤ bB l k ∧ bB l k ≤ 1000000 := by
  unfold bA bB
  rcases Nat.lt_or_ge k.toNat l.length with hk | hk
  · have := hl _ (List.getElem_mem hk)
    rw [List.getD_eq_getElem?_getD, List.getElem?_eq_getElem hk]; exact this
  · rw [List.getD_eq_getElem?_getD, List.getElem?_eq_none hk]
    show 0 ≤ (default : Int) ∧ (default : Int) ≤ 1000000 ∧ 0 ≤ (default : Int) ∧ (default : Int) ≤ 1000000
    decide
theorem S_mount_makespan {l : List Batch} {o : List Int} (hl : LotsOk l) (ho : ∀ x ∈ o, 0 ≤ x ∧ x < l.length) (hn : o.length ≤ 100000) {Q : Int → Prop} (h : Q (msp l o)) : M_mount_makespan l o Q := by
  unfold M_mount_makespan
  refine forIn0 (fun k s => s = (o.take k).foldl (Best.st (bA l) (bB l)) (0, 0) ∧ 0 ≤ s.1 ∧ s.1 ≤ k * 1000000 ∧ 0 ≤ s.2 ∧ s.2 ≤ k * 2000000) ⟨rfl, by simp⟩ (fun k x s hx hI next hnx => ?_) (fun s hI => ?_)
  · have hk := lt_of_get hx
    obtain ⟨h0, h1⟩ := ho x (List.mem_of_getElem? hx)
    obtain ⟨rfl, i1, i2, i3, i4⟩ := hI
    have hab := bAB_ok hl x
    generalize hs : (o.take k).foldl (Best.st (bA l) (bB l)) (0, 0) = s at *
    refine idx_getD h0 h1 ?_
    have ea : (l.getD x.toNat default).A = bA l x := rfl
    have eb : (l.getD x.toNat default).B = bB l x := rfl
    rw [ea, eb, w64_id (by omega) (by omega), w64_id (by omega) (by omega)]
    refine hnx _ ⟨?_, by simp only; omega, by simp only; omega, by simp only; omega, by simp only; omega⟩
    rw [List.take_add_one, hx, List.foldl_append, hs]
    rfl
  · obtain ⟨rfl, _⟩ := hI
    rw [List.take_length]; exact h
theorem S_ref10_makespan {l : List Batch} {o : List Int} (hl : LotsOk l) (ho : ∀ x ∈ o, 0 ≤ x ∧ x < l.length) (hn : o.length ≤ 100000) {Q : Int → Prop} (h : Q (msp l o)) : M_ref10_makespan l o Q := S_mount_makespan hl ho hn h
theorem isP_take {n : Nat} {l : List Int} (h : Best.IsP n l) (k : Nat) : Best.IsP n (l.take k) := ⟨List.Nodup.sublist (List.take_sublist k l) h.1, fun x hx => h.2 x (List.mem_of_mem_take hx)⟩
theorem S_mount_isOrder {l : List Int} {n : Nat} (hn : n ≤ 100000) {Q : Bool → Prop} (h : Q (decide (Best.IsP n l ∧ l.length = n))) : M_mount_isOrder l (n : Int) Q := by
  unfold M_mount_isOrder
  refine ⟨⟨Int.natCast_nonneg _, by omega⟩, ?_⟩
  refine forIn0 (fun k s => s.length = n ∧ Best.IsP n (l.take k) ∧ ∀ i, i < n → s.getD i false = decide ((i : Int) ∈ l.take k)) ⟨by simp, ⟨by simp, fun x hx => by simp at hx⟩, fun i hi => by simp [List.getD_eq_getElem?_getD, List.getElem?_replicate]; split <;> rfl⟩ (fun k x s hx hI next hnx => ?_) (fun s hI => ?_)
  · obtain ⟨i1, i2, i3⟩ := hI
    have hk := lt_of_get hx
    have et : l.take (k + 1) = l.take k ++ [x] := by rw [List.take_add_one, hx]; rfl
    have hw : within x 0 (w64 ((n : Int) - 1)) = decide (0 ≤ x ∧ x < n) := by
      rw [w64_id (by omega) (by omega)]; unfold within
      rw [Bool.eq_iff_iff]; simp; omega
    unfold M_mount_isOrder_L1 M_mount_isOrder_k2
    rw [hw]
    refine cnd_of (fun e => cnd_of (fun _ => ?_) (fun e => by cases e)) (fun e => ?_)
    · have : decide (Best.IsP n l ∧ l.length = n) = false := by
        refine decide_eq_false (fun hh => ?_)
        have := hh.1.2 x (List.mem_of_getElem? hx)
        simp at e; omega
      rw [this] at h; exact h
    · have hx2 : 0 ≤ x ∧ x < n := by simpa using e
      have hxs : x.toNat < s.length := by omega
      refine ⟨hx2.1, s[x.toNat], List.getElem?_eq_getElem hxs, ?_⟩
      have h3 := i3 x.toNat (by omega)
      rw [List.getD_eq_getElem?_getD, List.getElem?_eq_getElem hxs] at h3
      have hxx : ((x.toNat : Nat) : Int) = x := by omega
      rw [hxx] at h3
      simp only [Option.getD_some] at h3
      refine cnd_of (fun e2 => ?_) (fun e2 => ⟨hx2.1, s[x.toNat], List.getElem?_eq_getElem hxs, hnx _ ⟨by simp [i1], ?_, fun i hi => ?_⟩⟩)
      · have : decide (Best.IsP n l ∧ l.length = n) = false := by
          refine decide_eq_false (fun hh => ?_)
          have := (isP_take hh.1 (k + 1)).1
          rw [et, List.nodup_append] at this
          rw [e2] at h3
          exact this.2.2 x (by simpa using h3.symm) x (by simp) rfl
        rw [this] at h; exact h
      · rw [et]
        rw [e2] at h3
        have hnm : x ∉ l.take k := by simpa using h3.symm
        refine ⟨List.nodup_append.2 ⟨i2.1, by simp, fun a ha b hb => ?_⟩, fun a ha => ?_⟩
        · simp at hb; subst hb; intro hab; subst hab; exact hnm ha
        · rcases List.mem_append.1 ha with ha | ha
          · exact i2.2 a ha
          · simp at ha; subst ha; exact hx2
      · rw [et, List.getD_eq_getElem?_getD, List.getElem?_set]
        have h4 := i3 i hi
        rw [List.getD_eq_getElem?_getD] at h4
        by_cases hxi : x.toNat = i
        · subst hxi; rw [if_pos rfl, if_pos hxs, hxx]; simp
        · rw [if_neg hxi, h4]
          have : ¬ ((i : Int) = x) := by omega
          simp [this]
  · obtain ⟨i1, i2, i3⟩ := hI
    rw [List.take_length] at i2
    have : ((l.length : Int) == (n : Int)) = decide (Best.IsP n l ∧ l.length = n) := by
      rw [Bool.eq_iff_iff]; simp [i2]; omega
    show Q _
    rw [this]; exact h
theorem S_ref10_IsOrder {l : List Int} {n : Nat} (hn : n ≤ 100000) {Q : Bool → Prop} (h : Q (decide (Best.IsP n l ∧ l.length = n))) : M_ref10_IsOrder l (n : Int) Q := S_mount_isOrder hn h
def spanOut (l : List Batch) (o : List Int) : Int × Int := if lotsFault l 200 ≠ 0 then (0, lotsFault l 200) else if Best.IsP l.length o ∧ o.length = l.length then (msp l o, 0) else (0, 3)
theorem S_mount_Makespan {l : List Batch} {o : List Int} (hf : Fits.fits l) {Q : Int → Int → Prop} (h : Q (spanOut l o).1 (spanOut l o).2) : M_mount_Makespan l o Q := by
  unfold M_mount_Makespan
  unfold spanOut at h
  refine S_mount_checkLots hf (cnd_of (fun e => ?_) (fun e => ?_))
  · rw [if_pos (by simpa using e)] at h; exact h
  · have e0 : lotsFault l 200 = 0 := by simpa using e
    rw [if_neg (by simpa using e)] at h
    obtain ⟨hl, hok⟩ := lots_ok e0
    refine S_mount_isOrder (by omega) (cnd_of (fun e => ?_) (fun e => ?_))
    · rw [if_neg (fun hh => by rw [decide_eq_true hh] at e; cases e)] at h; exact h
    · have e2 : Best.IsP l.length o ∧ o.length = l.length := by simpa using e
      rw [if_pos e2] at h
      exact S_mount_makespan hok e2.1.2 (by omega) h
theorem S_ref10_Makespan {l : List Batch} {o : List Int} (hf : Fits.fits l) {Q : Int → Int → Prop} (h : Q (spanOut l o).1 (spanOut l o).2) : M_ref10_Makespan l o Q := by
  unfold M_ref10_Makespan
  unfold spanOut at h
  refine S_ref10_checkBatches hf (cnd_of (fun e => ?_) (fun e => ?_))
  · rw [if_pos (by simpa using e)] at h; exact h
  · have e0 : lotsFault l 200 = 0 := by simpa using e
    rw [if_neg (by simpa using e)] at h
    obtain ⟨hl, hok⟩ := lots_ok e0
    refine S_ref10_IsOrder (by omega) (cnd_of (fun e => ?_) (fun e => ?_))
    · rw [if_neg (fun hh => by rw [decide_eq_true hh] at e; cases e)] at h; exact h
    · have e2 : Best.IsP l.length o ∧ o.length = l.length := by simpa using e
      rw [if_pos e2] at h
      exact S_ref10_makespan hok e2.1.2 (by omega) h
/-! ### the best order -/
theorem S_clone_int {s : List Int} (hs : s.length ≤ 100000) {Q : List Int → Prop} (h : Q s) : M_clone_int s Q := by
  unfold M_clone_int
  exact clone_step (room_of (by omega) (by omega)) h
theorem S_Best1 {l : List Batch} {o best : List Int} {least : Int} (hl : LotsOk l) (ho : ∀ x ∈ o, 0 ≤ x ∧ x < l.length) (hn : o.length ≤ 100000) {Q : Int → List Int → Prop}
    (h : Q (Best.see (msp l) (best, least) o).2 (Best.see (msp l) (best, least) o).1) : M_Best1 o l least best Q := by
  unfold M_Best1 M_Best1_k1
  refine S_mount_makespan hl ho hn ?_
  unfold Best.see at h
  refine cnd_of (fun e => cnd_of (fun _ => ?_) (fun e => by cases e)) (fun e => cnd_of (fun e2 => ?_) (fun e2 => ?_))
  · rw [if_pos (.inl (by simpa using e))] at h; exact S_clone_int hn h
  · rw [if_pos (.inr (by simpa using e2))] at h; exact S_clone_int hn h
  · rw [if_neg (by simp at e e2; simp only; omega)] at h; exact h
def nexts (n f : Nat) (b : List Int) (m : Nat) : List (List Int) := (List.range m).flatMap fun (k : Nat) => if b.contains ((k : Nat) : Int) then [] else Best.comps n f (b ++ [((k : Nat) : Int)])
theorem nexts_succ (n f : Nat) (b : List Int) (m : Nat) : nexts n f b (m + 1) = nexts n f b m ++ (if b.contains ((m : Nat) : Int) then [] else Best.comps n f (b ++ [((m : Nat) : Int)])) := by
  unfold nexts; rw [List.range_succ, List.flatMap_append]; simp
theorem isP_snoc {n m : Nat} {b : List Int} (hb : Best.IsP n b) (hm : m < n) (hc : b.contains (m : Int) = false) : Best.IsP n (b ++ [(m : Int)]) := by
  have hnm : (m : Int) ∉ b := by simpa using hc
  refine ⟨List.nodup_append.2 ⟨hb.1, by simp, fun x hx y hy => ?_⟩, fun x hx => ?_⟩
  · simp at hy; subst hy; intro e; subst e; exact hnm hx
  · rcases List.mem_append.1 hx with hx | hx
    · exact hb.2 x hx
    · simp at hx; subst hx; omega
theorem nodup_len : ∀ (n : Nat) (l : List Nat), l.Nodup → (∀ x ∈ l, x < n) → l.length ≤ n
  | 0, l, _, h => by
    cases l with
    | nil => exact Nat.le_refl _
    | cons x r => exact absurd (h x (List.mem_cons_self ..)) (by omega)
  | n + 1, l, hd, h => by
    have h1 : (l.erase n).Nodup := hd.erase n
    have h2 := nodup_len n (l.erase n) h1 (fun x hx => by
      have h3 := (hd.mem_erase_iff).1 hx
      have := h x h3.2; have := h3.1; omega)
    rw [List.length_erase] at h2
    split at h2 <;> omega
theorem isP_short {n : Nat} {b : List Int} (hb : Best.IsP n b) : b.length ≤ n := by
  have h1 : (b.map Int.toNat).Nodup := by
    rw [List.nodup_iff_pairwise_ne, List.pairwise_map]
    refine List.Pairwise.imp_of_mem (fun {x y} hx hy hne => ?_) hb.1
    have := hb.2 x hx; have := hb.2 y hy; omega
  have h2 : (b.map Int.toNat) ⊆ List.range n := fun x hx => by
    obtain ⟨y, hy, rfl⟩ := List.mem_map.1 hx
    have := hb.2 y hy; exact List.mem_range.2 (by omega)
  have := nodup_len n _ h1 (fun x hx => List.mem_range.1 (h2 hx))
  simpa using this
theorem S_orders {l : List Batch} (hl : LotsOk l) (hn : l.length ≤ 1000) : ∀ (f : Nat) (b : List Int) (best : List Int) (least : Int) (Q : Int → List Int → Prop), Best.IsP l.length b → l.length ≤ f + b.length →
    Q ((Best.comps l.length f b).foldl (Best.see (msp l)) (best, least)).2 ((Best.comps l.length f b).foldl (Best.see (msp l)) (best, least)).1 → N_mount_orders (f + 1) b (l.length : Int) l least best Q := by
  intro f
  induction f with
  | zero =>
    intro b best least Q hb hf h
    have hlen : b.length = l.length := by have := isP_short hb; omega
    show M_mount_orders_B _ _ _ _ _ _ _
    unfold M_mount_orders_B
    unfold Best.comps at h
    rw [if_pos hlen] at h
    refine cnd_of (fun _ => S_Best1 hl hb.2 (by omega) h) (fun e => ?_)
    simp at e; omega
  | succ f ih =>
    intro b best least Q hb hf h
    show M_mount_orders_B _ _ _ _ _ _ _
    unfold M_mount_orders_B
    unfold Best.comps at h
    refine cnd_of (fun e => ?_) (fun e => ?_)
    · rw [if_pos (by simp at e; omega)] at h
      exact S_Best1 hl hb.2 (by have := isP_short hb; omega) h
    · have hne : ¬ b.length = l.length := by simp at e; omega
      rw [if_neg hne] at h
      refine lp_upto (fun m => (((nexts l.length f b m).foldl (Best.see (msp l)) (best, least)).1, ((nexts l.length f b m).foldl (Best.see (msp l)) (best, least)).2, (m : Int))) l.length rfl (fun X m hm hX => ?_) (fun X => ?_)
      · unfold M_mount_orders_L1
        dsimp only
        refine cnd_of (fun _ => ?_) (fun e => by simp at e; omega)
        rw [nexts_succ] at hX
        have hw : w64 ((m : Int) + 1) = ((m + 1 : Nat) : Int) := by rw [w64_id] <;> omega
        refine S_contains_int (cnd_of (fun e => ?_) (fun e => ?_))
        · have hc : b.contains (m : Int) = false := by simpa using e
          rw [hc] at hX
          rw [if_neg (by decide), List.foldl_append] at hX
          have hbl := isP_short hb
          refine S_clone_int (by omega) ⟨room_of (by simp; omega) (by omega), ?_⟩
          refine ih _ _ _ _ (isP_snoc hb hm hc) (by simp; omega) ?_
          rw [hw]; exact hX
        · have hc : b.contains (m : Int) = true := by simpa using e
          rw [hc, if_pos rfl, List.append_nil] at hX
          rw [hw]; exact hX
      · unfold M_mount_orders_L1
        dsimp only
        refine cnd_of (fun e => by simp at e) (fun _ => h)
def bestOut (l : List Batch) : List Int × Int × Int := if lotsFault l 8 ≠ 0 then ([], 0, lotsFault l 8) else
  (((Best.comps l.length l.length []).foldl (Best.see (msp l)) ([], -1)).1, ((Best.comps l.length l.length []).foldl (Best.see (msp l)) ([], -1)).2, 0)
theorem isP_nil (n : Nat) : Best.IsP n [] := ⟨by simp, fun x hx => by simp at hx⟩
theorem S_mount_Best {l : List Batch} (hf : Fits.fits l) {Q : List Int → Int → Int → Prop} (h : Q (bestOut l).1 (bestOut l).2.1 (bestOut l).2.2) : M_mount_Best l Q := by
  unfold M_mount_Best
  unfold bestOut at h
  refine S_mount_checkLots hf (cnd_of (fun e => ?_) (fun e => ?_))
  · rw [if_pos (by simpa using e)] at h; exact h
  · have e0 : lotsFault l 8 = 0 := by simpa using e
    rw [if_neg (by simpa using e)] at h
    obtain ⟨hl, hok⟩ := lots_ok e0
    exact ⟨l.length + 1, S_orders hok (by omega) l.length [] [] (-1) _ (isP_nil _) (by simp) h⟩
theorem S_goOn {l : List Batch} (hl : LotsOk l) (hn : l.length ≤ 1000) : ∀ (f : Nat) (b : List Int) (best : List Int) (most : Int) (Q : R10Search → Prop), Best.IsP l.length b → l.length ≤ f + b.length →
    Q ⟨l, b, ((Best.comps l.length f b).foldl (Best.see (msp l)) (best, most)).1, ((Best.comps l.length f b).foldl (Best.see (msp l)) (best, most)).2⟩ → N_ref10_goOn (f + 1) ⟨l, b, best, most⟩ Q := by
  intro f
  induction f with
  | zero =>
    intro b best most Q hb hf h
    have hlen : b.length = l.length := by have := isP_short hb; omega
    show M_ref10_goOn_B _ _ _
    unfold M_ref10_goOn_B M_ref10_goOn_k1
    unfold Best.comps at h
    rw [if_pos hlen] at h
    simp only [List.foldl_cons, List.foldl_nil] at h
    refine S_ref10_makespan hl hb.2 (by omega) ?_
    have fin : (most < 0 ∨ msp l b < most) → cnd ((b.length : Int) == (l.length : Int)) (M_clone_int b fun y2 => M_ref10_makespan l b fun y3 => Q ⟨l, b, y2, y3⟩) False := fun hc => by
      refine cnd_of (fun _ => S_clone_int (by omega) (S_ref10_makespan hl hb.2 (by omega) ?_)) (fun e => by simp at e; omega)
      unfold Best.see at h
      rw [if_pos hc] at h; exact h
    refine cnd_of (fun e => cnd_of (fun e2 => ?_) (fun e2 => ?_)) (fun e => cnd_of (fun e => by cases e) (fun _ => ?_))
    · unfold Best.see at h
      rw [if_neg (by simp at e e2; simp only; omega)] at h; exact h
    · exact cnd_mono (fin (.inr (by simpa using e2))) (fun h => h) (fun h => h.elim)
    · exact cnd_mono (fin (.inl (by simpa using e))) (fun h => h) (fun h => h.elim)
  | succ f ih =>
    intro b best most Q hb hf h
    have hbl := isP_short hb
    show M_ref10_goOn_B _ _ _
    unfold M_ref10_goOn_B M_ref10_goOn_k1
    refine S_ref10_makespan hl hb.2 (by omega) ?_
    have hA : ∀ k, 0 ≤ bA l k := fun k => (bAB_ok hl k).1
    have hB : ∀ k, 0 ≤ bB l k := fun k => (bAB_ok hl k).2.2.1
    have fin : (most < 0 ∨ msp l b < most) → cnd ((b.length : Int) == (l.length : Int)) (M_clone_int b fun y2 => M_ref10_makespan l b fun y3 => Q ⟨l, b, y2, y3⟩)
        (forIn' (fun k x (s : List Int × List Int × Int) next => M_ref10_goOn_L1 ⟨l, b, best, most⟩ (N_ref10_goOn (f + 1)) k x s.1 s.2.1 s.2.2 (fun l3 l4 b2 => next (l3, l4, b2))) (fun (s : List Int × List Int × Int) => Q ⟨l, s.1, s.2.1, s.2.2⟩) l 0 (b, best, most)) := fun hc => by
      unfold Best.comps at h
      refine cnd_of (fun e => S_clone_int (by omega) (S_ref10_makespan hl hb.2 (by omega) ?_)) (fun e => ?_)
      · rw [if_pos (by simp at e; omega)] at h
        simp only [List.foldl_cons, List.foldl_nil] at h
        unfold Best.see at h
        rw [if_pos hc] at h; exact h
      · rw [if_neg (by simp at e; omega)] at h
        refine forIn0 (fun k s => s = (b, ((nexts l.length f b k).foldl (Best.see (msp l)) (best, most)).1, ((nexts l.length f b k).foldl (Best.see (msp l)) (best, most)).2)) (by simp [nexts]) (fun k x s hx hI next hnx => ?_) (fun s hI => ?_)
        · subst hI
          have hk := lt_of_get hx
          unfold M_ref10_goOn_L1
          dsimp only
          have hX := hnx _ rfl
          rw [nexts_succ] at hX
          refine S_contains_int (cnd_of (fun e => ?_) (fun e => ?_))
          · have hc : b.contains (k : Int) = true := by simpa using e
            rw [hc, if_pos rfl, List.append_nil] at hX
            exact hX
          · have hc : b.contains (k : Int) = false := by simpa using e
            rw [hc, if_neg (by decide), List.foldl_append] at hX
            refine ⟨room_of (by simp; omega) (by omega), ih _ _ _ _ (isP_snoc hb hk hc) (by simp; omega) ?_⟩
            have hw : w64 (((b ++ [(k : Int)]).length : Int) - 1) = (b.length : Int) := by rw [List.length_append]; simp; rw [w64_id] <;> omega
            dsimp only
            rw [hw]
            refine ⟨⟨Int.natCast_nonneg _, by simp; omega⟩, ?_⟩
            rw [Int.toNat_natCast, List.take_left']
            · exact hX
            · rfl
        · subst hI; exact h
    refine cnd_of (fun e => cnd_of (fun e2 => ?_) (fun e2 => ?_)) (fun e => cnd_of (fun e => by cases e) (fun _ => ?_))
    · have h0 : 0 ≤ most := by simpa using e
      have h1 : most ≤ msp l b := by simpa using e2
      rw [Best.see_idle h0 (fun o ho => ?_)] at h
      · exact h
      · obtain ⟨r, rfl⟩ := Best.comps_pre ho
        exact Int.le_trans h1 (Best.ms_prefix hA hB b r)
    · exact fin (.inr (by simpa using e2))
    · exact fin (.inl (by simpa using e))
theorem S_ref10_Best {l : List Batch} (hf : Fits.fits l) {Q : List Int → Int → Int → Prop} (h : Q (bestOut l).1 (bestOut l).2.1 (bestOut l).2.2) : M_ref10_Best l Q := by
  unfold M_ref10_Best
  unfold bestOut at h
  refine S_ref10_checkBatches hf (cnd_of (fun e => ?_) (fun e => ?_))
  · rw [if_pos (by simpa using e)] at h; exact h
  · have e0 : lotsFault l 8 = 0 := by simpa using e
    rw [if_neg (by simpa using e)] at h
    obtain ⟨hl, hok⟩ := lots_ok e0
    exact ⟨l.length + 1, S_goOn hok (by omega) l.length [] [] (-1) _ (isP_nil _) (by simp) h⟩
theorem law_Best_true (l : List Batch) (order : List Int) (hf : Fits.fits l) : M_law_Best l order (· = true) := by
  unfold M_law_Best M_law_Best_k1
  refine S_mount_Makespan hf (S_ref10_Makespan hf ?_)
  simp only [bne_self_eq_false, cnd_false]
  refine S_mount_Best hf (S_ref10_Best hf ?_)
  simp only [beq_self_eq_true, cnd_true]
  refine S_equal_int ?_
  simp only [decide_true, cnd_true]
  exact S_awake rfl
end Go.Proofs.Ytcmlcgjjkccaeaa

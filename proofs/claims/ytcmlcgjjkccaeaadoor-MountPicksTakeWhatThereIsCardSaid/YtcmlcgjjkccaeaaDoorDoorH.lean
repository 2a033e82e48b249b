/- Chapter 10: reels, picks: what program and reference come to. -/
import Derived.Test.YtcmlcgjjkccaeaaDoorDoorG2
namespace Go.Proofs.YtcmlcgjjkccaeaaDoor
open Go Go.RowKit
set_option linter.unusedVariables false

/-! ### reels -/
def underI {α : Type} [Inhabited α] (key : α → Int) (t : List α) (k : Nat) (x : α) : Bool := decide (0 < k) && decide (key x ≤ key (t.getD (k - 1) default))
theorem underI_step {α : Type} [Inhabited α] {t : List α} {key : α → Int} {k : Nat} {x : α} (hk : k ≤ t.length) (hl : t.length ≤ 500000) {K : Bool → Prop} (h : K (underI key t k x)) :
    cnd (decide ((k : Int) > 0)) (idx t (w64 ((k : Int) - 1)) fun y => K (decide (key x ≤ key y))) (K false) :=
  before_of hk hl (fun h0 => by simpa [underI, h0] using h) (fun h0 => by simpa [underI, h0] using h)
def reelBad (r : List Reel) (k : Nat) (x : Reel) : Int :=
  if within x.Slot 1 10000 = false then 1 else if isWord x.Typ = false then 5 else if within x.Left 0 1000000 = false then 1 else if underI Reel.Slot r k x = true then 8 else 0
def reelsFault (r : List Reel) : Int := if (r.length : Int) > 200 then 2 else firstBad (reelBad r) r 0
theorem reels_step {r : List Reel} {Q : Int → Prop} {k : Nat} {x : Reel} {next : Prop} (hl : r.length ≤ 200) (hx : r[k]? = some x) (h1 : reelBad r k x ≠ 0 → Q (reelBad r k x)) (h0 : reelBad r k x = 0 → next)
    {W : Str → (Bool → Prop) → Prop} (hW : ∀ {s : Str} (hs : Fits.fits s) {Q : Bool → Prop} (h : Q (isWord s)), W s Q) {k2 : Bool → Prop} (hf : Fits.fits x.Typ) (e2 : ∀ c, k2 c = cnd c (Q 8) next) :
    cnd (!(within x.Slot 1 10000)) (Q 1) (W x.Typ fun y1 => cnd (!y1) (Q 5) (cnd (!(within x.Left 0 1000000)) (Q 1) (cnd (decide ((k : Int) > 0)) (idx r (w64 ((k : Int) - 1)) fun x1 => k2 (decide (x.Slot ≤ x1.Slot))) (k2 false)))) := by
  have hk := lt_of_get hx
  unfold reelBad at h1 h0
  cases a : within x.Slot 1 10000
  · simp only [a, if_true] at h1; simpa using h1 (by decide)
  simp only [Bool.not_true, cnd_false]
  refine hW hf ?_
  cases b : isWord x.Typ
  · simp only [a, b, if_true, Bool.true_eq_false, if_false] at h1; simpa using h1 (by decide)
  cases c : within x.Left 0 1000000
  · simp only [a, b, c, if_true, Bool.true_eq_false, if_false] at h1; simpa using h1 (by decide)
  simp only [Bool.not_true, cnd_false]
  refine underI_step (key := Reel.Slot) (by omega) (by omega) ?_
  rw [e2]
  simp only [a, b, c, Bool.true_eq_false, if_false] at h1 h0
  cases hu : underI Reel.Slot r k x
  · simp only [hu, Bool.false_eq_true, if_false, cnd_false] at h0 ⊢; exact h0 trivial
  · simp only [hu, if_true, cnd_true] at h1 ⊢; exact h1 (by decide)
theorem S_mount_CheckReels {r : List Reel} (hr : Fits.fits r) {Q : Int → Prop} (h : Q (reelsFault r)) : M_mount_CheckReels r Q := by
  unfold M_mount_CheckReels
  unfold reelsFault at h
  refine cnd_of (fun e => ?_) (fun e => ?_)
  · rw [if_pos (by simpa using e)] at h; exact h
  · rw [if_neg (by simpa using e)] at h
    refine forIn_check (reelBad r) (fun i x next hx h1 h0 => ?_) (Q := Q) (by split <;> rename_i e; rw [e] at h; exact h; exact h)
    exact reels_step (k2 := M_mount_CheckReels_k2 Q (next ())) (by simp at e; omega) hx h1 h0 (W := M_netlist_IsWord) S_netlist_IsWord (hr x (List.mem_of_getElem? hx)).2.1 (fun c => rfl)
theorem S_ref10_CheckReels {r : List Reel} (hr : Fits.fits r) {Q : Int → Prop} (h : Q (reelsFault r)) : M_ref10_CheckReels r Q := by
  unfold M_ref10_CheckReels
  unfold reelsFault at h
  refine cnd_of (fun e => ?_) (fun e => ?_)
  · rw [if_pos (by simpa using e)] at h; exact h
  · rw [if_neg (by simpa using e)] at h
    refine forIn_check (reelBad r) (fun i x next hx h1 h0 => ?_) (Q := Q) (by split <;> rename_i e; rw [e] at h; exact h; exact h)
    exact reels_step (k2 := M_ref10_CheckReels_k2 Q (next ())) (by simp at e; omega) hx h1 h0 (W := M_ref10_isWord) S_ref10_isWord (hr x (List.mem_of_getElem? hx)).2.1 (fun c => rfl)
/-- reels that are right -/
structure ReelsOk (r : List Reel) : Prop where
  len : r.length ≤ 200
  rise : ∀ i x y, r[i]? = some x → r[i + 1]? = some y → x.Slot < y.Slot
  each : ∀ x ∈ r, (1 ≤ x.Slot ∧ x.Slot ≤ 10000) ∧ (0 ≤ x.Left ∧ x.Left ≤ 1000000)
theorem reels_ok {r : List Reel} (h : reelsFault r = 0) : ReelsOk r := by
  unfold reelsFault at h
  split at h
  · omega
  have hb := firstBad_ok h
  refine ⟨by omega, fun i x y hx hy => ?_, fun x hx => ?_⟩
  · have := hb (i + 1) y hy
    unfold reelBad at this
    cases hu : underI Reel.Slot r (i + 1) y
    · unfold underI at hu
      have e : r.getD (i + 1 - 1) default = x := getD_of hx
      rw [e] at hu
      simp at hu; omega
    · simp only [hu, if_true] at this; repeat (first | omega | split at this)
  · obtain ⟨i, hi⟩ := List.getElem?_of_mem hx
    have := hb i x hi
    unfold reelBad at this
    cases a : within x.Slot 1 10000 <;> cases b : isWord x.Typ <;> cases c : within x.Left 0 1000000 <;> simp [a, b, c] at this
    unfold within at a c
    simp only [Bool.and_eq_true, decide_eq_true_eq] at a c
    exact ⟨a, c⟩
/-! ### what may stand in the place of others -/
def instBad (s : List Instead) (k : Nat) (x : Instead) : Int := if isWord x.Typ = false ∨ isWord x.By = false then 5 else if (x.Typ == x.By) = true then 12 else if (s.take k).any (fun y => decide (x = y)) = true then 7 else 0
def instFault (s : List Instead) : Int := if (s.length : Int) > 200 then 2 else firstBad (instBad s) s 0
theorem S_contains_inst {s : List Instead} {v : Instead} {Q : Bool → Prop} (h : Q (s.any fun y => decide (v = y))) : M_contains_inst s v Q := by
  unfold M_contains_inst M_index_inst
  refine forIn_any (fun y => decide (v = y)) (A := Q true) (fun k x next hq => ?_) s 0 ?_
  · unfold M_index_inst_L1
    have hk : decide ((k : Int) ≥ 0) = true := by simp
    refine cnd_of (fun e => ?_) (fun e => ?_)
    · rw [if_pos e] at hq; show Q (decide ((k : Int) ≥ 0)); rw [hk]; exact hq
    · rw [if_neg (by rw [e]; simp)] at hq; exact hq
  · split
    · rename_i e; rw [e] at h; exact h
    · rename_i e; rw [Bool.eq_false_iff.2 e] at h; exact h
theorem inst_step {s : List Instead} {Q : Int → Prop} {k : Nat} {x : Instead} {next : Prop} (hx : s[k]? = some x) (h1 : instBad s k x ≠ 0 → Q (instBad s k x)) (h0 : instBad s k x = 0 → next)
    {W : Str → (Bool → Prop) → Prop} (hW : ∀ {s : Str} (hs : Fits.fits s) {Q : Bool → Prop} (h : Q (isWord s)), W s Q) {k2 : Bool → Prop} (hf : Fits.fits x)
    (e2 : ∀ c, k2 c = cnd c (Q 5) (cnd (x.Typ == x.By) (Q 12) (must (0 ≤ (0 : Int) ∧ (0 : Int) ≤ (k : Int) ∧ (k : Int) ≤ (s.length : Int)) (M_contains_inst (seg s (0 : Int) (k : Int)) x fun y1 => cnd y1 (Q 7) next)))) :
    W x.Typ fun y2 => cnd (!y2) (k2 true) (W x.By fun y3 => k2 (!y3)) := by
  have hk := lt_of_get hx
  refine hW hf.1 ?_
  unfold instBad at h1 h0
  cases a : isWord x.Typ
  · simp only [a, if_true, true_or] at h1; simp only [e2, Bool.not_false, cnd_true]; exact h1 (by decide)
  simp only [Bool.not_true, cnd_false]
  refine hW hf.2 ?_
  rw [e2]
  cases b : isWord x.By
  · simp only [a, b, if_true, or_true] at h1; simp only [Bool.not_false, cnd_true]; exact h1 (by decide)
  simp only [Bool.not_true, cnd_false]
  simp only [a, b, Bool.true_eq_false, if_false, or_self] at h1 h0
  refine cnd_of (fun c => ?_) (fun c => ⟨⟨by omega, by omega, by omega⟩, S_contains_inst ?_⟩)
  · rw [if_pos c] at h1; exact h1 (by decide)
  rw [if_neg (by rw [c]; simp)] at h1 h0
  have e : seg s 0 (k : Int) = s.take k := by simp [seg]
  rw [e]
  refine cnd_of (fun d => ?_) (fun d => ?_)
  · rw [if_pos d] at h1; exact h1 (by decide)
  · rw [if_neg (by rw [d]; simp)] at h0; exact h0 rfl
theorem S_mount_checkInstead {s : List Instead} (hs : Fits.fits s) {Q : Int → Prop} (h : Q (instFault s)) : M_mount_checkInstead s Q := by
  unfold M_mount_checkInstead
  unfold instFault at h
  refine cnd_of (fun e => ?_) (fun e => ?_)
  · rw [if_pos (by simpa using e)] at h; exact h
  · rw [if_neg (by simpa using e)] at h
    refine forIn_check (instBad s) (fun i x next hx h1 h0 => ?_) (Q := Q) (by split <;> rename_i e; rw [e] at h; exact h; exact h)
    exact inst_step (k2 := M_mount_checkInstead_k2 s Q i x (next ())) hx h1 h0 (W := M_netlist_IsWord) S_netlist_IsWord (hs x (List.mem_of_getElem? hx)) (fun c => rfl)
theorem S_ref10_checkInsteads {s : List Instead} (hs : Fits.fits s) {Q : Int → Prop} (h : Q (instFault s)) : M_ref10_checkInsteads s Q := by
  unfold M_ref10_checkInsteads
  unfold instFault at h
  refine cnd_of (fun e => ?_) (fun e => ?_)
  · rw [if_pos (by simpa using e)] at h; exact h
  · rw [if_neg (by simpa using e)] at h
    refine forIn_check (instBad s) (fun i x next hx h1 h0 => ?_) (Q := Q) (by split <;> rename_i e; rw [e] at h; exact h; exact h)
    exact inst_step (k2 := M_ref10_checkInsteads_k2 s Q i x (next ())) hx h1 h0 (W := M_ref10_isWord) S_ref10_isWord (hs x (List.mem_of_getElem? hx)) (fun c => rfl)
/-! ### from which reel a part comes -/
def reelHas (name : Str) (x : Reel) : Bool := x.Typ == name && decide (x.Left > 0)
def reelIx (r : List Reel) (name : Str) : Int := match r.findIdx? (reelHas name) with | some i => (i : Int) | none => -1
def pickOf (r : List Reel) (s : List Instead) (name : Str) : Int := s.foldl (fun k x => if (decide (k < 0) && x.Typ == name) = true then reelIx r x.By else k) (reelIx r name)
theorem reelIx_cases (r : List Reel) (name : Str) : (reelIx r name = -1 ∧ ∀ x ∈ r, x.Typ = name → x.Left ≤ 0) ∨ ∃ (i : Nat) (x : Reel), reelIx r name = (i : Int) ∧ r[i]? = some x ∧ x.Typ = name ∧ 0 < x.Left := by
  unfold reelIx
  have := findIdx_find (reelHas name) r
  cases hf : r.findIdx? (reelHas name) with
  | none =>
    rw [hf] at this
    left
    refine ⟨rfl, fun x hx ht => ?_⟩
    have := List.find?_eq_none.1 this x hx
    unfold reelHas at this
    simp [ht] at this; exact this
  | some i =>
    rw [hf] at this
    obtain ⟨x, h1, _, h2⟩ := this
    right
    unfold reelHas at h2
    simp at h2
    exact ⟨i, x, rfl, h1, h2.1, h2.2⟩
theorem S_ref10_reelOf {r : List Reel} {name : Str} {Q : Int → Prop} (h : Q (reelIx r name)) : M_ref10_reelOf r name Q := by
  unfold M_ref10_reelOf
  refine forIn_find (reelHas name) (A := fun i => Q (i : Int)) (fun k x next hq => ?_) r 0 ?_
  · unfold M_ref10_reelOf_L1 M_ref10_reelOf_k2
    unfold reelHas at hq
    refine cnd_of (fun e => cnd_of (fun e2 => ?_) (fun e2 => ?_)) (fun e => cnd_of (fun e2 => by cases e2) (fun _ => ?_))
    · rw [if_pos (by rw [e, e2]; rfl)] at hq; exact hq
    · rw [if_neg (by rw [e, e2]; simp)] at hq; exact hq
    · rw [if_neg (by rw [e]; simp)] at hq; exact hq
  · unfold reelIx at h
    cases hf : r.findIdx? (reelHas name) <;> rw [hf] at h
    · exact h
    · simpa using h
theorem S_pick1 {r : List Reel} {name : Str} {Q : Int → Prop} (h : Q (reelIx r name)) : M_pick1 name r Q := by
  unfold M_pick1 M_indexfunc_reel
  refine forIn_find (reelHas name) (A := fun i => Q (i : Int)) (fun k x next hq => ?_) r 0 ?_
  · unfold M_indexfunc_reel_L1 M_pick11
    unfold reelHas at hq
    refine cnd_of (fun e => cnd_of (fun e2 => ?_) (fun e2 => ?_)) (fun e => cnd_of (fun e2 => by cases e2) (fun _ => ?_))
    · rw [if_pos (by rw [e, e2]; rfl)] at hq; exact hq
    · rw [if_neg (by rw [e, e2]; simp)] at hq; exact hq
    · rw [if_neg (by rw [e]; simp)] at hq; exact hq
  · unfold reelIx at h
    cases hf : r.findIdx? (reelHas name) <;> rw [hf] at h
    · exact h
    · simpa using h
def pickTo (r : List Reel) (s : List Instead) (name : Str) (k : Nat) : Int := (s.take k).foldl (fun k x => if (decide (k < 0) && x.Typ == name) = true then reelIx r x.By else k) (reelIx r name)
theorem pickTo_succ {r : List Reel} {s : List Instead} {name : Str} {k : Nat} {x : Instead} (hx : s[k]? = some x) : pickTo r s name (k + 1) = if (decide (pickTo r s name k < 0) && x.Typ == name) = true then reelIx r x.By else pickTo r s name k := by
  unfold pickTo
  rw [List.take_add_one, hx, List.foldl_append]; rfl
theorem pickTo_all (r : List Reel) (s : List Instead) (name : Str) : pickTo r s name s.length = pickOf r s name := by unfold pickTo pickOf; rw [List.take_length]
theorem pickTo_stay {r : List Reel} {s : List Instead} {name : Str} {k : Nat} (h : 0 ≤ pickTo r s name k) : ∀ d, k + d ≤ s.length → pickTo r s name (k + d) = pickTo r s name k
  | 0, _ => rfl
  | d + 1, hd => by
    have ih := pickTo_stay h d (by omega)
    have hx : s[k + d]? = some (s[k + d]'(by omega)) := List.getElem?_eq_getElem (by omega)
    rw [← Nat.add_assoc, pickTo_succ hx, ih, if_neg]
    have : decide (pickTo r s name k < 0) = false := by simp; omega
    rw [this]; simp
theorem S_mount_pick {r : List Reel} {s : List Instead} {name : Str} {Q : Int → Prop} (h : Q (pickOf r s name)) : M_mount_pick r s name Q := by
  unfold M_mount_pick
  refine S_pick1 ?_
  refine forIn0 (fun k n => n = pickTo r s name k) rfl (fun k x n hx hI next hn => ?_) (fun n hI => by subst hI; rw [pickTo_all]; exact h)
  subst hI
  have hs := hn _ rfl
  rw [pickTo_succ hx] at hs
  unfold M_mount_pick_L1 M_mount_pick_k2
  refine cnd_of (fun e => cnd_of (fun e2 => S_pick1 ?_) (fun e2 => ?_)) (fun e => cnd_of (fun e2 => by cases e2) (fun _ => ?_))
  · rw [if_pos (by rw [e, e2]; rfl)] at hs; exact hs
  · rw [if_neg (by rw [e, e2]; simp)] at hs; exact hs
  · rw [if_neg (by rw [e]; simp)] at hs; exact hs
theorem S_ref10_from {r : List Reel} {s : List Instead} (hl : s.length ≤ 200) {name : Str} {Q : Int → Prop} (h : Q (pickOf r s name)) : M_ref10_from r s name Q := by
  unfold M_ref10_from
  refine S_ref10_reelOf ?_
  refine lp_intro (fun t => ∃ k : Nat, k ≤ s.length ∧ t = (pickTo r s name k, (k : Int))) (fun t => s.length - t.2.toNat) ⟨0, by omega, rfl⟩ ?_
  rintro X _ ⟨k, hk, rfl⟩ hX
  unfold M_ref10_from_L1 M_ref10_from_k2
  refine cnd_of (fun e => cnd_of (fun e2 => ?_) (fun e2 => ?_)) (fun e => cnd_of (fun e2 => by cases e2) (fun _ => ?_))
  · have hlt : k < s.length := by simp at e2; exact e2
    have hx : s[k]? = some s[k] := List.getElem?_eq_getElem hlt
    have hw : w64 ((k : Int) + 1) = ((k + 1 : Nat) : Int) := by rw [w64_id] <;> omega
    have hs := pickTo_succ (r := r) (name := name) hx
    refine idx_nat hx (cnd_of (fun e3 => S_ref10_reelOf ?_) (fun e3 => ?_))
    · rw [if_pos (by rw [e, e3]; rfl)] at hs
      exact hX _ ⟨k + 1, by omega, by rw [hs, hw]⟩ (by simp only; rw [hw]; simp only [Int.toNat_natCast]; omega)
    · rw [if_neg (by rw [e, e3]; simp)] at hs
      exact hX _ ⟨k + 1, by omega, by rw [hs, hw]⟩ (by simp only; rw [hw]; simp only [Int.toNat_natCast]; omega)
  · have : k = s.length := by simp at e2; omega
    subst this
    rw [pickTo_all]; exact h
  · have hp : 0 ≤ pickTo r s name k := by simpa using e
    have := pickTo_stay hp (s.length - k) (by omega)
    rw [show k + (s.length - k) = s.length by omega, pickTo_all] at this
    dsimp only
    rw [← this]; exact h
/-! ### picks -/
def pickStep (s : List Instead) (n : Int) (st : List Pick × List Reel) (p : Place) : List Pick × List Reel :=
  let k := pickOf st.2 s p.Typ
  if k ≥ 0 then
    let x := st.2.getD k.toNat default
    (st.1 ++ [(⟨n, p.Part, x.Typ, x.Slot⟩ : Pick)], st.2.set k.toNat (⟨x.Slot, x.Typ, w64 (x.Left - 1)⟩ : Reel))
  else (st.1 ++ [(⟨n, p.Part, p.Typ, 0⟩ : Pick)], st.2)
def boardsTo (l : List Place) (s : List Instead) (r : List Reel) : Nat → List Pick × List Reel
  | 0 => ([], r)
  | m + 1 => l.foldl (pickStep s ((m + 1 : Nat) : Int)) (boardsTo l s r m)
def partTo (l : List Place) (s : List Instead) (r : List Reel) (m j : Nat) : List Pick × List Reel := (l.take j).foldl (pickStep s ((m + 1 : Nat) : Int)) (boardsTo l s r m)
theorem partTo_succ {l : List Place} {s : List Instead} {r : List Reel} {m j : Nat} {x : Place} (hx : l[j]? = some x) : partTo l s r m (j + 1) = pickStep s ((m + 1 : Nat) : Int) (partTo l s r m j) x := by
  unfold partTo; rw [List.take_add_one, hx, List.foldl_append]; rfl
theorem partTo_all (l : List Place) (s : List Instead) (r : List Reel) (m : Nat) : partTo l s r m l.length = boardsTo l s r (m + 1) := by unfold partTo; rw [List.take_length]; rfl
/-- what holds of each state holds at the end -/
theorem picks_ind {l : List Place} {s : List Instead} {r : List Reel} (I : Nat → List Pick × List Reel → Prop) (h0 : I 0 ([], r))
    (hs : ∀ m j x st, l[j]? = some x → I (m * l.length + j) st → I (m * l.length + j + 1) (pickStep s ((m + 1 : Nat) : Int) st x)) : ∀ m, I (m * l.length) (boardsTo l s r m) ∧ ∀ j, j ≤ l.length → I (m * l.length + j) (partTo l s r m j) := by
  have part : ∀ m, I (m * l.length) (boardsTo l s r m) → ∀ j, j ≤ l.length → I (m * l.length + j) (partTo l s r m j) := by
    intro m hm j
    induction j with
    | zero => intro _; exact hm
    | succ j ih =>
      intro hj
      have hx : l[j]? = some (l[j]'(by omega)) := List.getElem?_eq_getElem (by omega)
      rw [partTo_succ hx]
      exact hs m j _ _ hx (ih (by omega))
  intro m
  induction m with
  | zero => exact ⟨by rw [Nat.zero_mul]; exact h0, part 0 (by rw [Nat.zero_mul]; exact h0)⟩
  | succ m ih =>
    have : I ((m + 1) * l.length) (boardsTo l s r (m + 1)) := by
      have := ih.2 l.length (Nat.le_refl _)
      rw [partTo_all] at this
      rw [Nat.add_mul, Nat.one_mul]; exact this
    exact ⟨this, part _ this⟩
theorem pickOf_cases (r : List Reel) (s : List Instead) (name : Str) : pickOf r s name = -1 ∨ ∃ (i : Nat) (x : Reel), pickOf r s name = (i : Int) ∧ r[i]? = some x ∧ 0 < x.Left := by
  rw [← pickTo_all]
  have : ∀ k, k ≤ s.length → (pickTo r s name k = -1 ∨ ∃ (i : Nat) (x : Reel), pickTo r s name k = (i : Int) ∧ r[i]? = some x ∧ 0 < x.Left) := by
    intro k
    induction k with
    | zero =>
      intro _
      show reelIx r name = -1 ∨ _
      rcases reelIx_cases r name with h | ⟨i, x, h1, h2, _, h3⟩
      · exact .inl h.1
      · exact .inr ⟨i, x, h1, h2, h3⟩
    | succ k ih =>
      intro hk
      have hx : s[k]? = some (s[k]'(by omega)) := List.getElem?_eq_getElem (by omega)
      rw [pickTo_succ hx]
      split
      · rcases reelIx_cases r (s[k]'(by omega)).By with h | ⟨i, x, h1, h2, _, h3⟩
        · exact .inl h.1
        · exact .inr ⟨i, x, h1, h2, h3⟩
      · exact ih (by omega)
  exact this _ (Nat.le_refl _)
theorem pickStep_len (s : List Instead) (n : Int) (st : List Pick × List Reel) (p : Place) : (pickStep s n st p).1.length = st.1.length + 1 ∧ (pickStep s n st p).2.length = st.2.length := by
  unfold pickStep; dsimp only; split <;> simp
theorem picks_len (l : List Place) (s : List Instead) (r : List Reel) (m : Nat) : (boardsTo l s r m).1.length = m * l.length ∧ ∀ j, j ≤ l.length → (partTo l s r m j).1.length = m * l.length + j :=
  picks_ind (l := l) (s := s) (r := r) (fun c st => st.1.length = c) rfl (fun m j x st _ h => by rw [(pickStep_len _ _ _ _).1, h]) m
/-- one pick, in either text -/
theorem pick_one {s : List Instead} {n : Int} {x : Place} {ps : List Pick} {rs : List Reel} {next : List Pick → List Reel → Prop} {k3 : List Reel → Pick → Prop} (hl : ps.length ≤ 20000)
    (e3 : ∀ r b, k3 r b = must (room (ps ++ [b]).length 48) (next (ps ++ [b]) r)) (h : next (pickStep s n (ps, rs) x).1 (pickStep s n (ps, rs) x).2) :
    cnd (decide (pickOf rs s x.Typ ≥ 0)) (idx rs (pickOf rs s x.Typ) fun x1 => idx (rs.set (pickOf rs s x.Typ).toNat (⟨x1.Slot, x1.Typ, w64 (x1.Left - 1)⟩ : Reel)) (pickOf rs s x.Typ) fun x2 => k3 (rs.set (pickOf rs s x.Typ).toNat (⟨x1.Slot, x1.Typ, w64 (x1.Left - 1)⟩ : Reel)) (⟨n, x.Part, x2.Typ, x2.Slot⟩ : Pick)) (k3 rs (⟨n, x.Part, x.Typ, 0⟩ : Pick)) := by
  have hroom : ∀ b : Pick, room (ps ++ [b]).length 48 := fun b => room_of (by simp only [List.length_append, List.length_singleton]; omega) (by omega)
  unfold pickStep at h
  dsimp only at h
  refine cnd_of (fun e => ?_) (fun e => ?_)
  · rcases pickOf_cases rs s x.Typ with hp | ⟨i, z, hp, hz, _⟩
    · rw [hp] at e; simp at e
    · rw [hp] at h ⊢
      rw [if_pos (by omega)] at h
      simp only [Int.toNat_natCast] at h ⊢
      rw [getD_of hz] at h
      have hi := lt_of_get hz
      refine idx_nat hz (idx_nat (x := (⟨z.Slot, z.Typ, w64 (z.Left - 1)⟩ : Reel)) (List.getElem?_set_self hi) ?_)
      rw [e3]
      exact ⟨hroom _, h⟩
  · rw [if_neg (by simpa using e)] at h
    rw [e3]
    exact ⟨hroom _, h⟩
/-- the loops over boards and places, in either text -/
theorem picks_loop {l : List Place} {s : List Instead} {r : List Reel} {boards : Nat} (hb : boards ≤ 1000) (hm : boards * l.length ≤ 20000) {F : (List Pick × List Reel × Int → Prop) → List Pick × List Reel × Int → Prop} {Q : List Pick → List Reel → Int → Prop}
    {L2 : Int → Nat → Place → List Pick → List Reel → (List Pick → List Reel → Prop) → Prop}
    (hL2 : ∀ (n : Int) (k : Nat) (x : Place) (ps : List Pick) (rs : List Reel) (next : List Pick → List Reel → Prop), ps.length ≤ 20000 → next (pickStep s n (ps, rs) x).1 (pickStep s n (ps, rs) x).2 → L2 n k x ps rs next)
    (hF : ∀ X ps rs (n : Int), cnd (decide (n ≤ (boards : Int))) (forIn' (fun k x (st : List Pick × List Reel) next => L2 n k x st.1 st.2 (fun l7 l8 => next (l7, l8))) (fun (st : List Pick × List Reel) => X (st.1, st.2, w64 (n + 1))) l 0 (ps, rs)) (Q ps rs 0) → F X (ps, rs, n))
    (h : Q (boardsTo l s r boards).1 (boardsTo l s r boards).2 0) : lp F (([] : List Pick), r, 1) := by
  refine lp_upto (fun m => ((boardsTo l s r m).1, (boardsTo l s r m).2, ((m + 1 : Nat) : Int))) boards rfl (fun X m hlt hX => ?_) (fun X => ?_)
  · refine hF _ _ _ _ (cnd_of (fun _ => ?_) (fun e => by simp at e; omega))
    refine forIn0 (fun j st => st = partTo l s r m j) rfl (fun j x st hx hI next hn => ?_) (fun st hI => ?_)
    · subst hI
      have hj := lt_of_get hx
      have hle := (picks_len l s r m).2 j (by omega)
      refine hL2 _ _ _ _ _ _ ?_ (hn _ ?_)
      · rw [hle]
        have : (m + 1) * l.length ≤ boards * l.length := Nat.mul_le_mul_right _ (by omega)
        rw [Nat.add_mul, Nat.one_mul] at this
        omega
      · rw [partTo_succ hx]
    · subst hI
      rw [partTo_all]
      have hw : w64 (((m + 1 : Nat) : Int) + 1) = ((m + 1 + 1 : Nat) : Int) := by rw [w64_id] <;> omega
      rw [hw]; exact hX
  · exact hF _ _ _ _ (cnd_of (fun e => by simp at e; omega) (fun _ => h))
def picksFault (b : List Body) (l : List Place) (r : List Reel) (s : List Instead) (boards : Int) : Int :=
  if placesFault b l ≠ 0 then placesFault b l else if reelsFault r ≠ 0 then reelsFault r else if instFault s ≠ 0 then instFault s else if within boards 0 1000 = false then 1 else if (l.length : Int) * boards > 20000 then 2 else 0
def picksOf (b : List Body) (l : List Place) (r : List Reel) (s : List Instead) (boards : Int) : List Pick × List Reel := if picksFault b l r s boards ≠ 0 then ([], []) else boardsTo l s r boards.toNat
theorem S_mount_Picks {b : List Body} (hb : Fits.fits b) {l : List Place} (hlf : Fits.fits l) {r : List Reel} (hr : Fits.fits r) {s : List Instead} (hs : Fits.fits s) {boards : Int} {Q : List Pick → List Reel → Int → Prop}
    (h : Q (picksOf b l r s boards).1 (picksOf b l r s boards).2 (picksFault b l r s boards)) : M_mount_Picks b l r s boards Q := by
  unfold M_mount_Picks
  unfold picksOf at h
  have hbad : ∀ f, picksFault b l r s boards = f → f ≠ 0 → Q [] [] f := fun f hf h0 => by rw [hf, if_pos h0] at h; exact h
  refine S_mount_CheckPlaces hb hlf (cnd_of (fun e => ?_) (fun e => ?_))
  · have e' : placesFault b l ≠ 0 := by simpa using e
    exact hbad _ (by unfold picksFault; rw [if_pos e']) e'
  have e1 : placesFault b l = 0 := by simpa using e
  refine S_mount_CheckReels hr (cnd_of (fun e => ?_) (fun e => ?_))
  · have e' : reelsFault r ≠ 0 := by simpa using e
    exact hbad _ (by unfold picksFault; rw [if_neg (by simp [e1]), if_pos e']) e'
  have e2 : reelsFault r = 0 := by simpa using e
  refine S_mount_checkInstead hs (cnd_of (fun e => ?_) (fun e => ?_))
  · have e' : instFault s ≠ 0 := by simpa using e
    exact hbad _ (by unfold picksFault; rw [if_neg (by simp [e1]), if_neg (by simp [e2]), if_pos e']) e'
  have e3 : instFault s = 0 := by simpa using e
  unfold M_mount_isBoards
  refine cnd_of (fun e => ?_) (fun e => ?_)
  · exact hbad 1 (by unfold picksFault; rw [if_neg (by simp [e1]), if_neg (by simp [e2]), if_neg (by simp [e3]), if_pos (by simpa using e)]) (by decide)
  have e4 : within boards 0 1000 = true := by simpa using e
  have hbd : 0 ≤ boards ∧ boards ≤ 1000 := by unfold within at e4; simpa using e4
  have hl := (places_ok e1).len
  have hmul : 0 ≤ (l.length : Int) * boards ∧ (l.length : Int) * boards ≤ 1000000 := by
    have h1 : (l.length : Int) * boards ≤ 1000 * 1000 := Int.mul_le_mul (by omega) hbd.2 hbd.1 (by omega)
    exact ⟨Int.mul_nonneg (by omega) hbd.1, by omega⟩
  have hw : w64 (boards * (l.length : Int)) = (l.length : Int) * boards := by rw [Int.mul_comm, w64_id] <;> omega
  rw [hw]
  refine cnd_of (fun e => ?_) (fun e => ?_)
  · exact hbad 2 (by unfold picksFault; rw [if_neg (by simp [e1]), if_neg (by simp [e2]), if_neg (by simp [e3]), if_neg (by simp [e4]), if_pos (by simpa using e)]) (by decide)
  have hf : picksFault b l r s boards = 0 := by unfold picksFault; rw [if_neg (by simp [e1]), if_neg (by simp [e2]), if_neg (by simp [e3]), if_neg (by simp [e4]), if_neg (by simpa using e)]
  rw [hf, if_neg (by decide)] at h
  have hok := reels_ok e2
  refine clone_step (room_of (by have := hok.len; omega) (by omega)) (Q := fun y5 => lp (fun again (t : List Pick × List Reel × Int) => M_mount_Picks_L1 l s boards Q (fun l3 l4 n2 => again (l3, l4, n2)) t.1 t.2.1 t.2.2) (([] : List Pick), y5, 1)) ?_
  have hbn : boards = ((boards.toNat : Nat) : Int) := by omega
  refine picks_loop (l := l) (s := s) (boards := boards.toNat) (Q := Q) (by omega) ?_ (L2 := M_mount_Picks_L2 s) (fun n k x ps rs next hps hn => ?_) (fun X ps rs n hX => ?_) h
  · have e' : ¬ ((l.length : Int) * boards > 20000) := of_decide_eq_false e
    rw [hbn, Int.mul_comm] at e'
    have h2 : ((boards.toNat * l.length : Nat) : Int) ≤ 20000 := by rw [Int.natCast_mul]; omega
    omega
  · unfold M_mount_Picks_L2
    exact S_mount_pick (pick_one (k3 := fun r b => M_mount_Picks_k3 ps next r b) hps (fun r b => rfl) hn)
  · unfold M_mount_Picks_L1
    rw [← hbn] at hX; exact hX
theorem S_ref10_Picks {b : List Body} (hb : Fits.fits b) {l : List Place} (hlf : ∀ p ∈ l, p.Part.length < 4294967281) {r : List Reel} (hr : Fits.fits r) {s : List Instead} (hs : Fits.fits s) {boards : Int} {Q : List Pick → List Reel → Int → Prop}
    (h : Q (picksOf b l r s boards).1 (picksOf b l r s boards).2 (picksFault b l r s boards)) : M_ref10_Picks b l r s boards Q := by
  unfold M_ref10_Picks M_ref10_askPicks
  unfold picksOf at h
  have hbad : ∀ f, picksFault b l r s boards = f → f ≠ 0 → cnd (f != 0) (Q [] [] f) (M_clone_reel r fun y2 => lp (fun again (t : List Pick × List Reel × Int) => M_ref10_Picks_L1 l s boards Q (fun l3 l4 n2 => again (l3, l4, n2)) t.1 t.2.1 t.2.2) (([] : List Pick), y2, 1)) := fun f hf h0 => by
    rw [hf, if_pos h0] at h
    have : (f != 0) = true := by simpa using h0
    rw [this, cnd_true]; exact h
  refine S_ref10_CheckPlaces hb hlf (cnd_of (fun e => ?_) (fun e => ?_))
  · have e' : placesFault b l ≠ 0 := by simpa using e
    exact hbad _ (by unfold picksFault; rw [if_pos e']) e'
  have e1 : placesFault b l = 0 := by simpa using e
  refine S_ref10_CheckReels hr (cnd_of (fun e => ?_) (fun e => ?_))
  · have e' : reelsFault r ≠ 0 := by simpa using e
    exact hbad _ (by unfold picksFault; rw [if_neg (by simp [e1]), if_pos e']) e'
  have e2 : reelsFault r = 0 := by simpa using e
  refine S_ref10_checkInsteads hs (cnd_of (fun e => ?_) (fun e => ?_))
  · have e' : instFault s ≠ 0 := by simpa using e
    exact hbad _ (by unfold picksFault; rw [if_neg (by simp [e1]), if_neg (by simp [e2]), if_pos e']) e'
  have e3 : instFault s = 0 := by simpa using e
  refine cnd_of (fun e => ?_) (fun e => ?_)
  · exact hbad 1 (by unfold picksFault; rw [if_neg (by simp [e1]), if_neg (by simp [e2]), if_neg (by simp [e3]), if_pos (by simpa using e)]) (by decide)
  have e4 : within boards 0 1000 = true := by simpa using e
  have hbd : 0 ≤ boards ∧ boards ≤ 1000 := by unfold within at e4; simpa using e4
  have hl := (places_ok e1).len
  have hmul : 0 ≤ (l.length : Int) * boards ∧ (l.length : Int) * boards ≤ 1000000 := by
    have h1 : (l.length : Int) * boards ≤ 1000 * 1000 := Int.mul_le_mul (by omega) hbd.2 hbd.1 (by omega)
    exact ⟨Int.mul_nonneg (by omega) hbd.1, by omega⟩
  have hw : w64 ((l.length : Int) * boards) = (l.length : Int) * boards := by rw [w64_id] <;> omega
  rw [hw]
  refine cnd_of (fun e => ?_) (fun e => ?_)
  · exact hbad 2 (by unfold picksFault; rw [if_neg (by simp [e1]), if_neg (by simp [e2]), if_neg (by simp [e3]), if_neg (by simp [e4]), if_pos (by simpa using e)]) (by decide)
  have hf : picksFault b l r s boards = 0 := by unfold picksFault; rw [if_neg (by simp [e1]), if_neg (by simp [e2]), if_neg (by simp [e3]), if_neg (by simp [e4]), if_neg (by simpa using e)]
  rw [hf, if_neg (by decide)] at h
  have hok := reels_ok e2
  simp only [bne_self_eq_false, cnd_false]
  refine clone_step (room_of (by have := hok.len; omega) (by omega)) (Q := fun y5 => lp (fun again (t : List Pick × List Reel × Int) => M_ref10_Picks_L1 l s boards Q (fun l3 l4 n2 => again (l3, l4, n2)) t.1 t.2.1 t.2.2) (([] : List Pick), y5, 1)) ?_
  have hbn : boards = ((boards.toNat : Nat) : Int) := by omega
  have hsl : s.length ≤ 200 := by
    unfold instFault at e3
    split at e3
    · omega
    · rename_i hh; omega
  refine picks_loop (l := l) (s := s) (boards := boards.toNat) (Q := Q) (by omega) ?_ (L2 := M_ref10_Picks_L2 s) (fun n k x ps rs next hps hn => ?_) (fun X ps rs n hX => ?_) h
  · have e' : ¬ ((l.length : Int) * boards > 20000) := of_decide_eq_false e
    rw [hbn, Int.mul_comm] at e'
    have h2 : ((boards.toNat * l.length : Nat) : Int) ≤ 20000 := by rw [Int.natCast_mul]; omega
    omega
  · unfold M_ref10_Picks_L2
    exact S_ref10_from hsl (pick_one (k3 := fun r b => M_ref10_Picks_k3 ps next r b) hps (fun r b => rfl) hn)
  · unfold M_ref10_Picks_L1
    rw [← hbn] at hX; exact hX
theorem S_equal_pick {xs ys : List Pick} {Q : Bool → Prop} (h : Q (decide (xs = ys))) : M_equal_pick xs ys Q := by
  unfold M_equal_pick
  exact equal_loop (fun k x next hq => hq) h
theorem S_equal_reel {xs ys : List Reel} {Q : Bool → Prop} (h : Q (decide (xs = ys))) : M_equal_reel xs ys Q := by
  unfold M_equal_reel
  exact equal_loop (fun k x next hq => hq) h
theorem law_Picks_upto (b : List Body) (l : List Place) (r : List Reel) (s : List Instead) (boards : Int) (hb : Fits.fits b) (hl : Fits.fits l) (hr : Fits.fits r) (hs : Fits.fits s) (k1 : Bulk.bk l ≤ 1048576) : M_law_Picks b l r s boards (· = true) := by
  unfold M_law_Picks
  refine S_mount_Picks hb hl hr hs (S_ref10_Picks hb (parts_small k1) hr hs ?_)
  simp only [beq_self_eq_true, cnd_true]
  refine S_equal_pick ?_
  simp only [decide_true, cnd_true]
  refine S_equal_reel ?_
  simp only [decide_true, cnd_true]
  exact S_awake rfl
end Go.Proofs.YtcmlcgjjkccaeaaDoor

/- Chapter texts of ours, as far as the claim needs them. -/
import Derived.Test.YtcmlcgjjkccaeaaDoorDoorC
namespace Go.Proofs.YtcmlcgjjkccaeaaDoor
open Go Go.RowKit
set_option linter.unusedVariables false
set_option linter.unusedSimpArgs false
theorem S_netlist_IsWord {s : Str} (hs : Fits.fits s) {Q : Bool → Prop} (h : Q (isWord s)) : M_netlist_IsWord s Q := by
  unfold M_netlist_IsWord
  refine word_loop hs (Q := Q) (fun X n hX => ?_) h
  unfold M_netlist_IsWord_L1 M_netlist_IsWord_k2
  refine cnd_mono hX (fun hi => ?_) (fun hq => ?_)
  · obtain ⟨h0, x, hx, hc⟩ := hi
    refine ⟨h0, x, hx, ?_⟩
    unfold badByte at hc
    cases h1 : decide ((x.toNat : Int) < 65) <;> cases h2 : decide ((x.toNat : Int) > 90) <;> cases h3 : decide ((x.toNat : Int) < 97) <;> cases h4 : decide ((x.toNat : Int) > 122) <;> cases h5 : decide ((x.toNat : Int) < 48) <;> cases h6 : decide ((x.toNat : Int) > 57) <;>
      simp only [h1, h2, h3, h4, h5, h6, Bool.or_true, Bool.true_or, Bool.or_false, Bool.false_and, Bool.true_and, Bool.and_true, Bool.and_false, cnd_true, cnd_false] at hc ⊢ <;> exact hc
  · refine cnd_of (fun e => ?_) (fun e => ?_)
    · have e1 : 1 ≤ s.length := by simp at e; omega
      have : decide ((s.length : Int) ≤ 40) = decide (s.length ≤ 40) := by congr 1; exact propext ⟨fun h => by omega, fun h => by omega⟩
      rw [this]; simpa [e1] using hq
    · have e1 : ¬ 1 ≤ s.length := by simp at e; omega
      simpa [e1] using hq
theorem S_ref10_isWord {s : Str} (hs : Fits.fits s) {Q : Bool → Prop} (h : Q (isWord s)) : M_ref10_isWord s Q := by
  unfold M_ref10_isWord
  refine word_loop hs (Q := Q) (fun X n hX => ?_) h
  unfold M_ref10_isWord_L1 M_ref10_isWord_k2
  refine cnd_mono hX (fun hi => ?_) (fun hq => ?_)
  · obtain ⟨h0, x, hx, hc⟩ := hi
    refine ⟨h0, x, hx, ?_⟩
    unfold badByte at hc
    cases h1 : decide ((x.toNat : Int) < 65) <;> cases h2 : decide ((x.toNat : Int) > 90) <;> cases h3 : decide ((x.toNat : Int) < 97) <;> cases h4 : decide ((x.toNat : Int) > 122) <;> cases h5 : decide ((x.toNat : Int) < 48) <;> cases h6 : decide ((x.toNat : Int) > 57) <;>
      simp only [h1, h2, h3, h4, h5, h6, Bool.or_true, Bool.true_or, Bool.or_false, Bool.false_and, Bool.true_and, Bool.and_true, Bool.and_false, cnd_true, cnd_false] at hc ⊢ <;> exact hc
  · have : within (s.length : Int) 1 40 = (decide (1 ≤ s.length) && decide (s.length ≤ 40)) := by
      unfold within; congr 1 <;> (congr 1; exact propext ⟨fun h => by omega, fun h => by omega⟩)
    rw [this]; exact hq
def isPath (s : Str) : Bool := decide (s.length ≤ 200) && (Lib.split s [47]).all isWord
theorem split_fits {s x : Str} (hs : s.length ≤ 9223372036854775807) (hx : x ∈ Lib.split s [47]) : Fits.fits x := by
  have := splitK_le [47] _ s x hx
  show x.length ≤ 9223372036854775807
  omega
theorem S_strings_Split {s : Str} (hs : s.length < 4294967281) {Q : List Str → Prop} (h : Q (Lib.split s [47])) : M_strings_Split s [47] Q := ⟨⟨hs, ⟨47, rfl⟩, rfl, rfl⟩, h⟩
theorem S_netlist_IsPath {s : Str} {Q : Bool → Prop} (h : Q (isPath s)) : M_netlist_IsPath s Q := by
  unfold M_netlist_IsPath
  refine cnd_of (fun e => ?_) (fun e => ?_)
  · have hl : s.length ≤ 200 := by simp at e; omega
    refine S_strings_Split (by omega) ?_
    have hp : isPath s = !((Lib.split s [47]).any (fun x => !(isWord x))) := by
      unfold isPath
      rw [decide_eq_true hl, Bool.true_and, List.all_eq_not_any_not]
    have key : ∀ (Qi : Int → Prop) (xs : List Str) (k : Nat), (∀ x ∈ xs, Fits.fits x) → (if xs.any (fun x => !(isWord x)) = true then ∀ i : Nat, Qi i else Qi (-1)) → forIn' (fun k x (s : Unit) next => M_indexfunc_str_L1 Qi k x (next ())) (fun (_ : Unit) => Qi (-1)) xs k () := by
      intro Qi xs
      induction xs with
      | nil => intro k _ h; exact h
      | cons x r ih =>
        intro k hf h
        show M_indexfunc_str_L1 Qi k x _
        unfold M_indexfunc_str_L1 M_IsPath1
        refine S_netlist_IsWord (hf x (List.mem_cons_self ..)) (cnd_of (fun e => ?_) (fun e => ?_))
        · rw [if_pos (by simp only [List.any_cons, e, Bool.true_or])] at h
          exact h k
        · refine ih (k + 1) (fun y hy => hf y (List.mem_cons_of_mem _ hy)) ?_
          simp only [List.any_cons, e, Bool.false_or] at h
          exact h
    refine key _ _ 0 (fun x hx => split_fits (by omega) hx) ?_
    rw [hp] at h
    split
    · rename_i e
      rw [e] at h
      intro i
      have hk : decide ((i : Int) ≥ 0) = true := by simp
      show Q (!(decide ((i : Int) ≥ 0)))
      rw [hk]; exact h
    · rename_i e
      rw [Bool.eq_false_iff.2 e] at h
      exact h
  · have hl : decide (s.length ≤ 200) = false := by simp at e; simp; omega
    unfold isPath at h
    rw [hl] at h
    exact h
theorem S_ref10_isPath {s : Str} (hs : s.length < 4294967281) {Q : Bool → Prop} (h : Q (isPath s)) : M_ref10_isPath s Q := by
  unfold M_ref10_isPath
  refine S_strings_Split hs ?_
  have hd : decide ((s.length : Int) ≤ 200) = decide (s.length ≤ 200) := by congr 1; exact propext ⟨fun h => by omega, fun h => by omega⟩
  unfold isPath at h
  rw [Bool.and_comm] at h
  have key : ∀ (xs : List Str) (k : Nat), (∀ x ∈ xs, Fits.fits x) → Q (xs.all isWord && decide (s.length ≤ 200)) → forIn' (fun k x (s : Unit) next => M_ref10_isPath_L1 Q k x (next ())) (fun (_ : Unit) => Q (decide ((s.length : Int) ≤ 200))) xs k () := by
    intro xs
    induction xs with
    | nil => intro k _ h; show Q (decide ((s.length : Int) ≤ 200)); rw [hd]; exact h
    | cons x r ih =>
      intro k hf h
      show M_ref10_isPath_L1 Q k x _
      unfold M_ref10_isPath_L1
      refine S_ref10_isWord (hf x (List.mem_cons_self ..)) (cnd_of (fun e => ?_) (fun e => ?_))
      · have e' : isWord x = false := by simpa using e
        simp only [List.all_cons, e', Bool.false_and] at h
        exact h
      · have e' : isWord x = true := by simpa using e
        refine ih (k + 1) (fun y hy => hf y (List.mem_cons_of_mem _ hy)) ?_
        simp only [List.all_cons, e', Bool.true_and] at h
        exact h
  exact key _ 0 (fun x hx => split_fits (by omega) hx) h
def bodyBad (b : List Body) (k : Nat) (x : Body) : Int :=
  if isWord x.Typ = false then 5 else if within x.W 1 100000 = false ∨ within x.H 1 100000 = false ∨ within x.Tall 1 100000 = false then 1 else if isWord x.Nozzle = false then 5 else if under Body.Typ b k x = true then 8 else 0
def bodiesFault (b : List Body) : Int := if (b.length : Int) > 200 then 2 else firstBad (bodyBad b) b 0
theorem bodies_step {b : List Body} {Q : Int → Prop} {k : Nat} {x : Body} {next : Prop} (hl : b.length ≤ 200) (hx : b[k]? = some x) (h1 : bodyBad b k x ≠ 0 → Q (bodyBad b k x)) (h0 : bodyBad b k x = 0 → next)
    {W : Str → (Bool → Prop) → Prop} (hW : ∀ {s : Str} (hs : Fits.fits s) {Q : Bool → Prop} (h : Q (isWord s)), W s Q) {k2 k3 : Bool → Prop} (hx1 : Fits.fits x.Typ) (hx2 : Fits.fits x.Nozzle)
    (e2 : ∀ c, k2 c = cnd c (Q 1) (W x.Nozzle fun y2 => cnd (!y2) (Q 5) (cnd (decide ((k : Int) > 0)) (idx b (w64 ((k : Int) - 1)) fun x1 => k3 (strLt x.Typ x1.Typ || x.Typ == x1.Typ)) (k3 false)))) (e3 : ∀ c, k3 c = cnd c (Q 8) next) :
    W x.Typ fun y1 => cnd (!y1) (Q 5) (cnd (!(within x.W 1 100000)) (k2 true) (cnd (!(within x.H 1 100000)) (k2 true) (k2 (!(within x.Tall 1 100000))))) := by
  refine hW hx1 ?_
  have hk := lt_of_get hx
  unfold bodyBad at h1 h0
  cases a : isWord x.Typ
  · simp only [a, if_true] at h1; simpa using h1 (by decide)
  cases b1 : within x.W 1 100000
  · simp only [a, b1, if_true, Bool.true_eq_false, if_false, true_or] at h1; simp only [e2, Bool.not_true, Bool.not_false, cnd_true, cnd_false]; exact h1 (by decide)
  cases b2 : within x.H 1 100000
  · simp only [a, b1, b2, if_true, Bool.true_eq_false, if_false, true_or, or_true] at h1; simp only [e2, Bool.not_true, Bool.not_false, cnd_true, cnd_false]; exact h1 (by decide)
  cases b3 : within x.Tall 1 100000
  · simp only [a, b1, b2, b3, if_true, Bool.true_eq_false, if_false, or_true] at h1; simp only [e2, Bool.not_true, Bool.not_false, cnd_true, cnd_false]; exact h1 (by decide)
  simp only [e2, Bool.not_true, cnd_false]
  refine hW hx2 ?_
  cases d : isWord x.Nozzle
  · simp only [a, b1, b2, b3, d, if_true, Bool.true_eq_false, if_false, or_self] at h1; simpa using h1 (by decide)
  simp only [Bool.not_true, cnd_false]
  refine under_step (key := Body.Typ) (by omega) (by omega) ?_
  rw [e3]
  simp only [a, b1, b2, b3, d, Bool.true_eq_false, if_false, or_self] at h1 h0
  cases hu : under Body.Typ b k x
  · simp only [hu, Bool.false_eq_true, if_false, cnd_false] at h0 ⊢; exact h0 trivial
  · simp only [hu, if_true, cnd_true] at h1 ⊢; exact h1 (by decide)
theorem S_mount_CheckBodies {b : List Body} (hb : Fits.fits b) {Q : Int → Prop} (h : Q (bodiesFault b)) : M_mount_CheckBodies b Q := by
  unfold M_mount_CheckBodies
  unfold bodiesFault at h
  refine cnd_of (fun e => ?_) (fun e => ?_)
  · rw [if_pos (by simpa using e)] at h; exact h
  · rw [if_neg (by simpa using e)] at h
    refine forIn_check (bodyBad b) (fun i x next hx h1 h0 => ?_) (Q := Q) (by split <;> rename_i e; rw [e] at h; exact h; exact h)
    have hf := hb x (List.mem_of_getElem? hx)
    exact bodies_step (k2 := M_mount_CheckBodies_k2 b Q i x (next ())) (k3 := M_mount_CheckBodies_k3 Q (next ())) (by simp at e; omega) hx h1 h0 (W := M_netlist_IsWord) S_netlist_IsWord hf.1 hf.2.2.2.2 (fun c => rfl) (fun c => rfl)
theorem S_ref10_CheckBodies {b : List Body} (hb : Fits.fits b) {Q : Int → Prop} (h : Q (bodiesFault b)) : M_ref10_CheckBodies b Q := by
  unfold M_ref10_CheckBodies
  unfold bodiesFault at h
  refine cnd_of (fun e => ?_) (fun e => ?_)
  · rw [if_pos (by simpa using e)] at h; exact h
  · rw [if_neg (by simpa using e)] at h
    refine forIn_check (bodyBad b) (fun i x next hx h1 h0 => ?_) (Q := Q) (by split <;> rename_i e; rw [e] at h; exact h; exact h)
    have hf := hb x (List.mem_of_getElem? hx)
    exact bodies_step (k2 := M_ref10_CheckBodies_k2 b Q i x (next ())) (k3 := M_ref10_CheckBodies_k3 Q (next ())) (by simp at e; omega) hx h1 h0 (W := M_ref10_isWord) S_ref10_isWord hf.1 hf.2.2.2.2 (fun c => rfl) (fun c => rfl)
structure BodiesOk (b : List Body) : Prop where
  len : b.length ≤ 200
  rise : Rising Body.Typ b
  each : ∀ x ∈ b, isWord x.Typ = true ∧ within x.W 1 100000 = true ∧ within x.H 1 100000 = true ∧ within x.Tall 1 100000 = true ∧ isWord x.Nozzle = true
theorem bodies_ok {b : List Body} (h : bodiesFault b = 0) : BodiesOk b := by
  unfold bodiesFault at h
  split at h
  · omega
  have hb := firstBad_ok h
  refine ⟨by omega, rising_of (fun i x hx => ?_), fun x hx => ?_⟩
  · have := hb i x hx
    unfold bodyBad at this
    cases hu : under Body.Typ b i x
    · rfl
    · simp only [hu, if_true] at this; repeat (first | omega | split at this)
  · obtain ⟨i, hi⟩ := List.getElem?_of_mem hx
    have := hb i x hi
    unfold bodyBad at this
    cases a : isWord x.Typ <;> cases b1 : within x.W 1 100000 <;> cases b2 : within x.H 1 100000 <;> cases b3 : within x.Tall 1 100000 <;> cases d : isWord x.Nozzle <;> simp [a, b1, b2, b3, d] at this ⊢
def noBody : Body := ⟨[], 0, 0, 0, []⟩
def bodyAt (b : List Body) (name : Str) : Option Body := b.find? (fun x => x.Typ == name)
def bodyIx (b : List Body) (name : Str) : Option Nat := b.findIdx? (fun x => x.Typ == name)
theorem bodyIx_at (b : List Body) (name : Str) : match bodyIx b name with | some i => ∃ x, b[i]? = some x ∧ bodyAt b name = some x | none => bodyAt b name = none := by
  have := findIdx_find (fun x : Body => x.Typ == name) b
  unfold bodyIx bodyAt
  cases hf : b.findIdx? (fun x => x.Typ == name) with
  | none => rw [hf] at this; exact this
  | some i => rw [hf] at this; obtain ⟨x, h1, h2, _⟩ := this; exact ⟨x, h1, h2⟩
theorem S_mount_bodyOf {b : List Body} (hb : BodiesOk b) {name : Str} {Q : Body → Bool → Prop} (h : Q ((bodyAt b name).getD noBody) (bodyAt b name).isSome) : M_mount_bodyOf b name Q := by
  unfold M_mount_bodyOf M_search_body
  refine search_loop (key := Body.Typ) hb.rise (by have := hb.len; omega) (name := name) (Q := fun y1 y2 => cnd (!y2) (Q (⟨[], 0, 0, 0, []⟩ : Body) false) (idx b y1 fun x1 => Q x1 true)) (fun X lo hi hX => hX) (fun i x hx hn => ?_) (fun hne i hi => ?_)
  · simp only [Bool.not_true, cnd_false]
    refine idx_nat hx ?_
    have : bodyAt b name = some x := find_some (key := Body.Typ) hb.rise hx hn
    simpa [this] using h
  · simp only [Bool.not_false, cnd_true]
    have : bodyAt b name = none := List.find?_eq_none.2 (fun x hx => by simpa using hne x hx)
    rw [this] at h
    exact h
theorem S_ref10_bodyOf {b : List Body} {name : Str} {Q : Int → Prop} (h : Q (match bodyIx b name with | some i => (i : Int) | none => -1)) : M_ref10_bodyOf b name Q := by
  unfold M_ref10_bodyOf
  refine forIn_find (fun x : Body => x.Typ == name) (A := fun i => Q (i : Int)) (fun k x next hq => ?_) b 0 ?_
  · unfold M_ref10_bodyOf_L1
    refine cnd_of (fun e => ?_) (fun e => ?_)
    · rw [if_pos e] at hq; exact hq
    · rw [if_neg (by simpa using e)] at hq; exact hq
  · unfold bodyIx at h
    cases hf : b.findIdx? (fun x => x.Typ == name) <;> rw [hf] at h
    · exact h
    · simpa using h
def at0 (p : Place) : Bool := within p.At.X (-1000000) 1000000 && within p.At.Y (-1000000) 1000000 && within p.Quarters 0 3
def placeBad0 (b : List Body) (p : Place) : Int := if isPath p.Part = false then 5 else if (bodyAt b p.Typ).isSome = false then 9 else if at0 p = false then 1 else 0
def placeBad (b : List Body) (l : List Place) (k : Nat) (p : Place) : Int := if placeBad0 b p ≠ 0 then placeBad0 b p else if under Place.Part l k p = true then 8 else 0
def placesFault (b : List Body) (l : List Place) : Int := if bodiesFault b ≠ 0 then bodiesFault b else if (l.length : Int) > 1000 then 2 else firstBad (placeBad b l) l 0
theorem placeBad_val (b : List Body) (l : List Place) (k : Nat) (x : Place) : placeBad b l k x = if isPath x.Part = false then 5 else if (bodyAt b x.Typ).isSome = false then 9 else if at0 x = false then 1 else if under Place.Part l k x = true then 8 else 0 := by
  unfold placeBad placeBad0
  cases isPath x.Part <;> cases (bodyAt b x.Typ).isSome <;> cases at0 x <;> simp
theorem S_mount_CheckPlaces {b : List Body} (hb : Fits.fits b) {l : List Place} (hlf : Fits.fits l) {Q : Int → Prop} (h : Q (placesFault b l)) : M_mount_CheckPlaces b l Q := by
  unfold M_mount_CheckPlaces
  unfold placesFault at h
  refine S_mount_CheckBodies hb (cnd_of (fun e => ?_) (fun e => ?_))
  · rw [if_pos (by simpa using e)] at h; exact h
  have e0 : bodiesFault b = 0 := by simpa using e
  have hok := bodies_ok e0
  rw [if_neg (by simp [e0])] at h
  refine cnd_of (fun e => ?_) (fun e => ?_)
  · rw [if_pos (by simpa using e)] at h; exact h
  rw [if_neg (by simpa using e)] at h
  have hl : l.length ≤ 1000 := by simp at e; omega
  refine forIn_check (placeBad b l) (fun i x next hx h1 h0 => ?_) (Q := Q) (by split <;> rename_i e; rw [e] at h; exact h; exact h)
  have hk := lt_of_get hx
  unfold M_mount_CheckPlaces_L1
  refine S_mount_bodyOf hok (S_netlist_IsPath ?_)
  rw [placeBad_val] at h1 h0
  cases a : isPath x.Part
  · simp only [a, if_true] at h1; simpa using h1 (by decide)
  cases b1 : (bodyAt b x.Typ).isSome
  · simp only [a, b1, if_true, Bool.true_eq_false, if_false] at h1; simpa using h1 (by decide)
  simp only [Bool.not_true, cnd_false]
  show cnd (within x.At.X (-1000000) 1000000) (cnd (!(within x.At.Y (-1000000) 1000000)) _ _) (cnd (!false) _ _)
  have hk2 : ∀ c, c = (!(at0 x)) → M_mount_CheckPlaces_k2 l Q i x (next ()) c := by
    rintro _ rfl
    unfold M_mount_CheckPlaces_k2
    cases c : at0 x
    · simp only [a, b1, c, if_true, Bool.true_eq_false, if_false] at h1; simpa using h1 (by decide)
    simp only [Bool.not_true, cnd_false]
    refine under_step (key := Place.Part) (by omega) (by omega) ?_
    unfold M_mount_CheckPlaces_k3
    simp only [a, b1, c, Bool.true_eq_false, if_false] at h1 h0
    cases hu : under Place.Part l i x
    · simp only [hu, Bool.false_eq_true, if_false, cnd_false] at h0 ⊢; exact h0 trivial
    · simp only [hu, if_true, cnd_true] at h1 ⊢; exact h1 (by decide)
  refine cnd_of (fun c1 => cnd_of (fun c2 => hk2 _ ?_) (fun c2 => hk2 _ ?_)) (fun c1 => cnd_of (fun _ => hk2 _ ?_) (fun c2 => by simp at c2))
  · unfold at0; simp at c2; simp [c1, c2]
  · unfold at0; simp at c2; simp [c1, c2]
  · unfold at0; simp [c1]
theorem S_ref10_checkPlace {b : List Body} {x : Place} (hp : x.Part.length < 4294967281) {Q : Int → Prop} (h : Q (placeBad0 b x)) : M_ref10_checkPlace b x Q := by
  unfold M_ref10_checkPlace
  unfold placeBad0 at h
  refine S_ref10_isPath hp ?_
  cases a : isPath x.Part
  · simp only [a, if_true] at h; simpa using h
  simp only [Bool.not_true, cnd_false]
  refine S_ref10_bodyOf ?_
  have hix := bodyIx_at b x.Typ
  simp only [a, Bool.true_eq_false, if_false] at h
  have hk : ∀ c, c = (!(at0 x)) → (bodyAt b x.Typ).isSome = true → M_ref10_checkPlace_k1 Q c := by
    rintro _ rfl hs
    unfold M_ref10_checkPlace_k1
    rw [hs] at h
    cases c : at0 x <;> simp only [c, if_true, Bool.true_eq_false, if_false] at h <;> simpa using h
  cases hf : bodyIx b x.Typ with
  | none =>
    rw [hf] at hix
    simp only [hix, Option.isSome_none, if_true] at h
    simpa using h
  | some i =>
    rw [hf] at hix
    obtain ⟨y, _, hy⟩ := hix
    have hs : (bodyAt b x.Typ).isSome = true := by rw [hy]; rfl
    have hd : decide ((i : Int) < 0) = false := by simp
    simp only [hd, cnd_false]
    refine cnd_of (fun c1 => hk _ ?_ hs) (fun c1 => cnd_of (fun c2 => hk _ ?_ hs) (fun c2 => hk _ ?_ hs))
    · unfold at0; simp at c1; simp [c1]
    · unfold at0; simp at c1 c2; simp [c1, c2]
    · unfold at0; simp at c1 c2; simp [c1, c2]
theorem S_ref10_CheckPlaces {b : List Body} (hb : Fits.fits b) {l : List Place} (hs : ∀ p ∈ l, p.Part.length < 4294967281) {Q : Int → Prop} (h : Q (placesFault b l)) : M_ref10_CheckPlaces b l Q := by
  unfold M_ref10_CheckPlaces
  unfold placesFault at h
  refine S_ref10_CheckBodies hb (cnd_of (fun e => ?_) (fun e => ?_))
  · rw [if_pos (by simpa using e)] at h; exact h
  have e0 : bodiesFault b = 0 := by simpa using e
  rw [if_neg (by simp [e0])] at h
  refine cnd_of (fun e => ?_) (fun e => ?_)
  · rw [if_pos (by simpa using e)] at h; exact h
  rw [if_neg (by simpa using e)] at h
  have hl : l.length ≤ 1000 := by simp at e; omega
  refine forIn_check (placeBad b l) (fun i x next hx h1 h0 => ?_) (Q := Q) (by split <;> rename_i e; rw [e] at h; exact h; exact h)
  have hk := lt_of_get hx
  unfold M_ref10_CheckPlaces_L1
  refine S_ref10_checkPlace (hs x (List.mem_of_getElem? hx)) ?_
  unfold placeBad at h1 h0
  refine cnd_of (fun e => ?_) (fun e => ?_)
  · have e' : placeBad0 b x ≠ 0 := by simpa using e
    rw [if_pos e'] at h1; exact h1 e'
  have e' : placeBad0 b x = 0 := by simpa using e
  rw [if_neg (by simp [e'])] at h1 h0
  refine under_step (key := Place.Part) (by omega) (by omega) ?_
  unfold M_ref10_CheckPlaces_k2
  cases hu : under Place.Part l i x
  · simp only [hu, Bool.false_eq_true, if_false, cnd_false] at h0 ⊢; exact h0 trivial
  · simp only [hu, if_true, cnd_true] at h1 ⊢; exact h1 (by decide)
structure PlacesOk (b : List Body) (l : List Place) : Prop where
  bodies : BodiesOk b
  len : l.length ≤ 1000
  rise : Rising Place.Part l
  each : ∀ p ∈ l, isPath p.Part = true ∧ (bodyAt b p.Typ).isSome = true ∧ at0 p = true
theorem places_ok {b : List Body} {l : List Place} (h : placesFault b l = 0) : PlacesOk b l := by
  unfold placesFault at h
  split at h
  · contradiction
  split at h
  · omega
  rename_i h1 h2
  have hb := firstBad_ok h
  refine ⟨bodies_ok (Decidable.not_not.1 h1), by omega, rising_of (fun i x hx => ?_), fun x hx => ?_⟩
  · have := hb i x hx
    rw [placeBad_val] at this
    cases hu : under Place.Part l i x
    · rfl
    · simp only [hu, if_true] at this; repeat (first | omega | split at this)
  · obtain ⟨i, hi⟩ := List.getElem?_of_mem hx
    have := hb i x hi
    rw [placeBad_val] at this
    cases a : isPath x.Part <;> cases c : (bodyAt b x.Typ).isSome <;> cases d : at0 x <;> simp [a, c, d] at this ⊢
end Go.Proofs.YtcmlcgjjkccaeaaDoor

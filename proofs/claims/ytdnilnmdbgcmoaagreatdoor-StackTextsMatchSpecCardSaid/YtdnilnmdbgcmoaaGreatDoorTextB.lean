/- Chapter 4: what the checks of materials and stacks come to. -/
import Derived.Test.YtdnilnmdbgcmoaaGreatDoorTextA2
import Derived.Test.YtdnilnmdbgcmoaaGreatDoorFind
namespace Go.Proofs.YtdnilnmdbgcmoaaGreatDoor
open Go Go.RowKit
set_option linter.unusedVariables false

theorem S_netlist_IsWord {s : Str} (hs : Fits.fits s) {Q : Bool → Prop} (h : Q (isWord s)) : M_netlist_IsWord s Q := by
  unfold M_netlist_IsWord
  refine word_loop hs (Q := Q) (fun X n hX => ?_) h
  unfold M_netlist_IsWord_L1 M_netlist_IsWord_k2
  refine cnd_mono hX (fun hi => ?_) (fun hq => ?_)
  · obtain ⟨h0, x, hx, hc⟩ := hi
    refine ⟨h0, x, hx, ?_⟩
    unfold badByte at hc
    cases h1 : decide ((x.toNat : Int) < 65) <;> cases h2 : decide ((x.toNat : Int) > 90) <;> cases h3 : decide ((x.toNat : Int) < 97) <;> cases h4 : decide ((x.toNat : Int) > 122) <;> cases h5 : decide ((x.toNat : Int) < 48) <;> cases h6 : decide ((x.toNat : Int) > 57) <;>
      simp only [h1, h2, h3, h4, h5, h6, Bool.or_true, Bool.true_or, Bool.or_false, Bool.false_and, Bool.true_and, Bool.and_true, Bool.and_false, cnd_true, cnd_false] at hc ⊢ <;> exact hc
  · refine cnd_of (fun e => ?_) (fun e => ?_)
    · have e1 : 1 ≤ s.length := by simp at e; omega
      have : decide ((s.length : Int) ≤ 40) = decide (s.length ≤ 40) := by congr 1; exact propext ⟨fun h => by omega, fun h => by omega⟩
      rw [this]; simpa [e1] using hq
    · have e1 : ¬ 1 ≤ s.length := by simp at e; omega
      simpa [e1] using hq
theorem S_ref4_isWord {s : Str} (hs : Fits.fits s) {Q : Bool → Prop} (h : Q (isWord s)) : M_ref4_isWord s Q := by
  unfold M_ref4_isWord
  refine word_loop hs (Q := Q) (fun X n hX => ?_) h
  unfold M_ref4_isWord_L1 M_ref4_isWord_k2
  refine cnd_mono hX (fun hi => ?_) (fun hq => ?_)
  · obtain ⟨h0, x, hx, hc⟩ := hi
    refine ⟨h0, x, hx, ?_⟩
    unfold badByte at hc
    cases h1 : decide ((x.toNat : Int) < 65) <;> cases h2 : decide ((x.toNat : Int) > 90) <;> cases h3 : decide ((x.toNat : Int) < 97) <;> cases h4 : decide ((x.toNat : Int) > 122) <;> cases h5 : decide ((x.toNat : Int) < 48) <;> cases h6 : decide ((x.toNat : Int) > 57) <;>
      simp only [h1, h2, h3, h4, h5, h6, Bool.or_true, Bool.true_or, Bool.or_false, Bool.false_and, Bool.true_and, Bool.and_true, Bool.and_false, cnd_true, cnd_false] at hc ⊢ <;> exact hc
  · have : within (s.length : Int) 1 40 = (decide (1 ≤ s.length) && decide (s.length ≤ 40)) := by
      unfold within; congr 1 <;> (congr 1; exact propext ⟨fun h => by omega, fun h => by omega⟩)
    rw [this]; exact hq
/-! ### materials -/
def matBad (m : List Material) (k : Nat) (x : Material) : Int :=
  if isWord x.Name = false then 5 else if within x.Kind 1 3 = false then 4 else if within x.Thick 1 2000 = false ∨ within x.Grow 0 1000 = false then 1 else if under Material.Name m k x = true then 8 else 0
def matsFault (m : List Material) : Int := if (m.length : Int) > 50 then 2 else firstBad (matBad m) m 0
theorem mats_step {m : List Material} {Q : Int → Prop} {k : Nat} {x : Material} {next : Prop} (hl : m.length ≤ 50) (hx : m[k]? = some x) (h1 : matBad m k x ≠ 0 → Q (matBad m k x)) (h0 : matBad m k x = 0 → next) :
    cnd (!(isWord x.Name)) (Q 5) (cnd (!(within x.Kind 1 3)) (Q 4) (cnd (!(within x.Thick 1 2000)) (M_stack_CheckMaterials_k2 m Q k x next true) (M_stack_CheckMaterials_k2 m Q k x next (!(within x.Grow 0 1000))))) := by
  have hk := lt_of_get hx
  have key : matBad m k x = 0 ∨ matBad m k x = 8 → (isWord x.Name = true ∧ within x.Kind 1 3 = true ∧ within x.Thick 1 2000 = true ∧ within x.Grow 0 1000 = true) →
      cnd (decide ((k : Int) > 0)) (idx m (w64 ((k : Int) - 1)) fun x1 => M_stack_CheckMaterials_k3 Q next (strLt x.Name x1.Name || x.Name == x1.Name)) (M_stack_CheckMaterials_k3 Q next false) := by
    intro hb ⟨a, b, c, d⟩
    refine under_step (key := Material.Name) (by omega) (by omega) ?_
    unfold M_stack_CheckMaterials_k3
    unfold matBad at h1 h0
    simp only [a, b, c, d, Bool.true_eq_false, if_false, or_self] at h1 h0
    cases hu : under Material.Name m k x
    · simp only [hu, Bool.false_eq_true, if_false, cnd_false] at h0 ⊢; exact h0 trivial
    · simp only [hu, if_true, cnd_true] at h1 ⊢; exact h1 (by decide)
  unfold M_stack_CheckMaterials_k2
  unfold matBad at h1 h0 key
  cases a : isWord x.Name
  · simp only [a, if_true] at h1; simpa using h1 (by decide)
  cases b : within x.Kind 1 3
  · simp only [a, b, if_true, Bool.true_eq_false, if_false] at h1; simpa using h1 (by decide)
  cases c : within x.Thick 1 2000
  · simp only [a, b, c, if_true, Bool.true_eq_false, if_false, true_or] at h1; simpa using h1 (by decide)
  cases d : within x.Grow 0 1000
  · simp only [a, b, c, d, if_true, Bool.true_eq_false, if_false, or_true] at h1; simpa using h1 (by decide)
  simp only [a, b, c, d, Bool.true_eq_false, if_false, or_self, Bool.not_true, cnd_false] at key ⊢
  exact key (by split <;> simp) ⟨trivial, trivial, trivial, trivial⟩
theorem S_stack_CheckMaterials {m : List Material} (hm : Fits.fits m) {Q : Int → Prop} (h : Q (matsFault m)) : M_stack_CheckMaterials m Q := by
  unfold M_stack_CheckMaterials
  unfold matsFault at h
  refine cnd_of (fun e => ?_) (fun e => ?_)
  · rw [if_pos (by simpa using e)] at h; exact h
  · rw [if_neg (by simpa using e)] at h
    refine forIn_check (matBad m) (fun i x next hx h1 h0 => ?_) (Q := Q) (by split <;> rename_i e; rw [e] at h; exact h; exact h)
    exact S_netlist_IsWord (hm x (List.mem_of_getElem? hx)).1 (mats_step (by simp at e; omega) hx h1 h0)
theorem S_ref4_CheckMaterials {m : List Material} (hm : Fits.fits m) {Q : Int → Prop} (h : Q (matsFault m)) : M_ref4_CheckMaterials m Q := by
  unfold M_ref4_CheckMaterials
  unfold matsFault at h
  refine cnd_of (fun e => ?_) (fun e => ?_)
  · rw [if_pos (by simpa using e)] at h; exact h
  · rw [if_neg (by simpa using e)] at h
    refine forIn_check (matBad m) (fun i x next hx h1 h0 => ?_) (Q := Q) (by split <;> rename_i e; rw [e] at h; exact h; exact h)
    exact S_ref4_isWord (hm x (List.mem_of_getElem? hx)).1 (mats_step (by simp at e; omega) hx h1 h0)
/-- materials that are right -/
structure MatsOk (m : List Material) : Prop where
  len : m.length ≤ 50
  rise : Rising Material.Name m
  each : ∀ x ∈ m, isWord x.Name = true ∧ within x.Kind 1 3 = true ∧ within x.Thick 1 2000 = true ∧ within x.Grow 0 1000 = true
theorem mats_ok {m : List Material} (h : matsFault m = 0) : MatsOk m := by
  unfold matsFault at h
  split at h
  · omega
  have hb := firstBad_ok h
  refine ⟨by omega, rising_of (fun i x hx => ?_), fun x hx => ?_⟩
  · have := hb i x hx
    unfold matBad at this
    cases hu : under Material.Name m i x
    · rfl
    · simp only [hu, if_true] at this; repeat (first | omega | split at this)
  · obtain ⟨i, hi⟩ := List.getElem?_of_mem hx
    have := hb i x hi
    unfold matBad at this
    cases a : isWord x.Name <;> cases b : within x.Kind 1 3 <;> cases c : within x.Thick 1 2000 <;> cases d : within x.Grow 0 1000 <;> simp [a, b, c, d] at this ⊢

/-- the material of a name -/
def noMat : Material := ⟨[], 0, 0, 0⟩
def matOf (m : List Material) (name : Str) : Material := (m.find? (fun x => x.Name == name)).getD noMat
def hasMat (m : List Material) (name : Str) : Bool := (m.find? (fun x => x.Name == name)).isSome
theorem S_stack_materialOf {m : List Material} (hm : MatsOk m) {name : Str} {Q : Material → Bool → Prop} (h : Q (matOf m name) (hasMat m name)) : M_stack_materialOf m name Q := by
  unfold M_stack_materialOf M_search_mat
  refine search_loop (key := Material.Name) hm.rise (by have := hm.len; omega) (name := name) (Q := fun y1 y2 => cnd (!y2) (Q (⟨[], 0, 0, 0⟩ : Material) false) (idx m y1 fun x1 => Q x1 true)) (fun X lo hi hX => hX) (fun i x hx hn => ?_) (fun hne i hi => ?_)
  · simp only [Bool.not_true, cnd_false]
    refine idx_nat hx ?_
    have := find_some (key := Material.Name) hm.rise hx hn
    simpa [matOf, hasMat, this] using h
  · simp only [Bool.not_false, cnd_true]
    have : m.find? (fun x => x.Name == name) = none := List.find?_eq_none.2 (fun x hx => by simpa using hne x hx)
    unfold matOf hasMat at h
    rw [this] at h
    exact h
theorem S_ref4_materialOf {m : List Material} {name : Str} {Q : Material → Prop} (h : Q (matOf m name)) : M_ref4_materialOf m name Q := by
  unfold M_ref4_materialOf
  have key : ∀ (l : List Material) (k : Nat), (match l.find? (fun x => x.Name == name) with | some b => Q b | none => Q noMat) → forIn' (fun k x (s : Unit) next => M_ref4_materialOf_L1 name Q k x (next ())) (fun (s : Unit) => Q (⟨[], 0, 0, 0⟩ : Material)) l k () := by
    intro l
    induction l with
    | nil => intro k h; exact h
    | cons x r ih =>
      intro k h
      show M_ref4_materialOf_L1 name Q k x _
      unfold M_ref4_materialOf_L1
      rw [List.find?_cons] at h
      refine cnd_of (fun e => ?_) (fun e => ih (k + 1) ?_)
      · rw [e] at h; exact h
      · rw [e] at h; exact h
  refine key m 0 ?_
  unfold matOf at h
  cases hf : m.find? (fun x => x.Name == name) <;> rw [hf] at h <;> exact h
theorem hasMat_kind {m : List Material} (hm : MatsOk m) (name : Str) : hasMat m name = !((matOf m name).Kind == 0) ∧ 0 ≤ (matOf m name).Kind ∧ (matOf m name).Kind ≤ 3 ∧ 0 ≤ (matOf m name).Thick ∧ (matOf m name).Thick ≤ 2000 ∧ 0 ≤ (matOf m name).Grow ∧ (matOf m name).Grow ≤ 1000 := by
  unfold hasMat matOf
  cases hf : m.find? (fun x => x.Name == name) with
  | none => decide
  | some x =>
    obtain ⟨_, h1, h2, h3⟩ := hm.each x (List.mem_of_find?_eq_some hf)
    unfold within at h1 h2 h3
    simp at h1 h2 h3
    simp only [Option.isSome_some, Option.getD_some]
    refine ⟨?_, by omega, by omega, by omega, by omega, by omega, by omega⟩
    have : ¬ x.Kind = 0 := by omega
    simp [this]
/-- the kind of a layer -/
def kindAt (m : List Material) (l : Layer) : Int := (matOf m l.Material).Kind
theorem S_stack_kindOf {m : List Material} (hm : MatsOk m) {l : Layer} {Q : Int → Prop} (h : Q (kindAt m l)) : M_stack_kindOf m l Q := S_stack_materialOf hm h
theorem S_ref4_isCopper {m : List Material} {l : Layer} {Q : Bool → Prop} (h : Q (kindAt m l == 1)) : M_ref4_isCopper m l Q := S_ref4_materialOf h
/-- the coppers among the first layers -/
def copTo (m : List Material) (s : List Layer) : Nat → List Int
  | 0 => []
  | k + 1 => copTo m s k ++ (if kindAt m (s.getD k default) = 1 then [(k : Int)] else [])
theorem copTo_len (m : List Material) (s : List Layer) : ∀ k, (copTo m s k).length ≤ k
  | 0 => by simp [copTo]
  | k + 1 => by have := copTo_len m s k; simp only [copTo, List.length_append]; split <;> simp <;> omega
def copOf (m : List Material) (s : List Layer) : List Int := copTo m s s.length
theorem S_stack_coppers {m : List Material} (hm : MatsOk m) {s : List Layer} (hs : s.length ≤ 1000) {Q : List Int → Prop} (h : Q (copOf m s)) : M_stack_coppers m s Q := by
  unfold M_stack_coppers
  refine forIn0 (fun k l => l = copTo m s k) rfl (fun k x l hx hI next hn => ?_) (fun l hI => by subst hI; exact h)
  subst hI
  have hk := lt_of_get hx
  have := copTo_len m s k
  refine S_stack_kindOf hm (cnd_of (fun e => ⟨room_of (by simp only [List.length_append, List.length_singleton]; omega) (by omega), hn _ ?_⟩) (fun e => hn _ ?_))
  · rw [copTo, getD_of hx, if_pos (by simpa using e)]
  · rw [copTo, getD_of hx, if_neg (by simpa using e)]; simp
theorem S_ref4_coppers {m : List Material} {s : List Layer} (hs : s.length ≤ 1000) {Q : List Int → Prop} (h : Q (copOf m s)) : M_ref4_coppers m s Q := by
  unfold M_ref4_coppers
  refine forIn0 (fun k l => l = copTo m s k) rfl (fun k x l hx hI next hn => ?_) (fun l hI => by subst hI; exact h)
  subst hI
  have hk := lt_of_get hx
  have := copTo_len m s k
  refine S_ref4_isCopper (cnd_of (fun e => ⟨room_of (by simp only [List.length_append, List.length_singleton]; omega) (by omega), hn _ ?_⟩) (fun e => hn _ ?_))
  · rw [copTo, getD_of hx, if_pos (by simpa using e)]
  · rw [copTo, getD_of hx, if_neg (by simpa using e)]; simp
/-! ### stacks -/
def kindBefore (m : List Material) (s : List Layer) (k : Nat) : Int := if k = 0 then 0 else kindAt m (s.getD (k - 1) default)
def layerBad (m : List Material) (s : List Layer) (k : Nat) (x : Layer) : Int :=
  if kindAt m x = 0 then 9 else if (kindAt m x = 1 ∧ isWord x.Name = false) ∨ (kindAt m x ≠ 1 ∧ x.Name ≠ []) then 5
  else if kindAt m x = 1 ∧ (s.take k).any (fun y => y.Name == x.Name) = true then 7
  else if (kindAt m x = 1 ∧ kindBefore m s k = 1) ∨ (kindAt m x = 2 ∧ kindBefore m s k ≠ 0 ∧ kindBefore m s k ≠ 1) ∨ (kindBefore m s k = 2 ∧ kindAt m x ≠ 1) then 8 else 0
def stackFault (m : List Material) (s : List Layer) : Int :=
  if matsFault m ≠ 0 then matsFault m else if (s.length : Int) > 60 then 2 else if firstBad (layerBad m s) s 0 ≠ 0 then firstBad (layerBad m s) s 0
  else if (copOf m s).length < 2 ∨ kindAt m (s.getD 0 default) ≠ 1 ∨ kindAt m (s.getD (s.length - 1) default) ≠ 1 then 3 else 0
def namesTo (s : List Layer) : Nat → List (Str × Bool)
  | 0 => []
  | k + 1 => mput (namesTo s k) (s.getD k default).Name true
theorem namesTo_get (s : List Layer) (n : Str) : ∀ k, k ≤ s.length → (mget (namesTo s k) n).getD false = (s.take k).any (fun y => y.Name == n)
  | 0, _ => by simp [namesTo, mget]
  | k + 1, h => by
    have ih := namesTo_get s n k (by omega)
    have hx : s[k]? = some (s.getD k default) := by rw [List.getD_eq_getElem?_getD, List.getElem?_eq_getElem (by omega)]; rfl
    rw [namesTo, mget_put, List.take_add_one, hx, List.any_append, ← ih]
    by_cases hp : (s.getD k default).Name = n
    · simp only [hp, if_true, Option.toList, List.any_cons, List.any_nil, beq_self_eq_true, Bool.true_or, Bool.or_true, Option.getD_some]
    · rw [if_neg hp]
      have : ((s.getD k default).Name == n) = false := by simpa using hp
      simp only [Option.toList, List.any_cons, List.any_nil, this, Bool.or_false]
theorem stack_step {m : List Material} (hm : MatsOk m) {s : List Layer} (hf : Fits.fits s) {Q : Int → Prop} {k : Nat} {x : Layer} {next : List (Str × Bool) → Int → Prop} (hx : s[k]? = some x) (h1 : layerBad m s k x ≠ 0 → Q (layerBad m s k x)) (h0 : layerBad m s k x = 0 → next (namesTo s (k + 1)) (kindBefore m s (k + 1))) :
    M_stack_CheckStack_L1 m Q k x (namesTo s k) (kindBefore m s k) next := by
  have hk := lt_of_get hx
  have e1 : namesTo s (k + 1) = mput (namesTo s k) x.Name true := by rw [namesTo, getD_of hx]
  have e2 : kindBefore m s (k + 1) = (matOf m x.Material).Kind := by unfold kindBefore; rw [if_neg (by omega), Nat.add_sub_cancel, getD_of hx]; rfl
  rw [e1, e2] at h0
  unfold M_stack_CheckStack_L1
  refine S_stack_materialOf hm ?_
  obtain ⟨hh, hk0, hk3, _⟩ := hasMat_kind hm x.Material
  rw [hh]
  unfold layerBad at h1 h0
  have ek : kindAt m x = (matOf m x.Material).Kind := rfl
  rw [ek] at h1 h0
  generalize (matOf m x.Material) = y at *
  generalize kindBefore m s k = bf at *
  have tail : (¬ y.Kind = 0) → ¬ ((y.Kind = 1 ∧ isWord x.Name = false) ∨ (y.Kind ≠ 1 ∧ x.Name ≠ [])) → M_stack_CheckStack_k3 Q x (namesTo s k) bf next y false := by
    intro c1 c2
    rw [if_neg c1, if_neg c2] at h1 h0
    unfold M_stack_CheckStack_k3 M_stack_CheckStack_k4 M_stack_CheckStack_k6 M_stack_CheckStack_k7 M_stack_CheckStack_k5
    rw [namesTo_get s x.Name k (by omega)]
    generalize (s.take k).any (fun y => y.Name == x.Name) = an at *
    simp only [cnd_iff, beq_iff_eq, bne_iff_ne, ne_eq, Bool.false_eq_true, if_false, Bool.not_eq_true', beq_eq_false_iff_ne] at *
    grind
  refine cnd_of (fun e => ?_) (fun e => ?_)
  · have : y.Kind = 0 := by simpa using e
    rw [if_pos this] at h1; exact h1 (by decide)
  · have c1 : ¬ y.Kind = 0 := by simpa using e
    rw [if_neg c1] at h1 h0
    have bad : ((y.Kind = 1 ∧ isWord x.Name = false) ∨ (y.Kind ≠ 1 ∧ x.Name ≠ [])) → M_stack_CheckStack_k3 Q x (namesTo s k) bf next y true := by
      intro c2
      rw [if_pos c2] at h1
      unfold M_stack_CheckStack_k3
      rw [cnd_true]; exact h1 (by decide)
    refine cnd_of (fun e3 => S_netlist_IsWord (hf x (List.mem_of_getElem? hx)).1 (cnd_of (fun e4 => bad (.inl ⟨by simpa using e3, by simpa using e4⟩)) (fun e4 => ?_))) (fun e3 => ?_)
    · have c3 : y.Kind = 1 := by simpa using e3
      simp only [c3, beq_self_eq_true, Bool.not_true, cnd_false]
      exact tail c1 (by simp [c3]; simpa using e4)
    · have c3 : ¬ y.Kind = 1 := by simpa using e3
      rw [e3]
      simp only [Bool.not_false, cnd_true]
      cases hn : (x.Name == [])
      · exact bad (.inr ⟨c3, by simpa using hn⟩)
      · exact tail c1 (by simp [c3]; simpa using hn)
theorem S_stack_CheckStack {m : List Material} {s : List Layer} (hmf : Fits.fits m) (hf : Fits.fits s) {Q : Int → Prop} (h : Q (stackFault m s)) : M_stack_CheckStack m s Q := by
  unfold M_stack_CheckStack
  unfold stackFault at h
  refine S_stack_CheckMaterials hmf (cnd_of (fun e => ?_) (fun e => ?_))
  · rw [if_pos (by simpa using e)] at h; exact h
  · have e' : matsFault m = 0 := by simpa using e
    rw [if_neg (by simpa using e)] at h
    have hm := mats_ok e'
    refine cnd_of (fun e => ?_) (fun e => ?_)
    · rw [if_pos (by simpa using e)] at h; exact h
    · have hl : s.length ≤ 60 := by simp at e; omega
      rw [if_neg (by simpa using e)] at h
      refine forIn_firstS (layerBad m s) (fun k => (namesTo s k, kindBefore m s k)) rfl (A := Q) (fun i x next hx hb hA => ?_) (fun i x next hx hb _ hn => ?_) (fun hb => ?_) (fun hb => ?_)
      · exact stack_step hm hf hx (fun _ => hA) (fun e => absurd e hb)
      · exact stack_step hm hf hx (fun e => absurd hb e) (fun _ => hn)
      · rw [if_pos hb] at h; exact h
      · rw [if_neg (by simpa using hb)] at h
        refine S_stack_coppers hm (by omega) ?_
        unfold M_stack_CheckStack_k2
        refine cnd_of (fun e => ?_) (fun e => ?_)
        · rw [if_pos (.inl (by simp at e; omega))] at h; simpa using h
        · have hc : ¬ (copOf m s).length < 2 := by simp at e; omega
          have hc2 := copTo_len m s s.length
          have hpos : 2 ≤ s.length := by unfold copOf at hc; omega
          refine idx_nat (i := 0) (x := s.getD 0 default) (by rw [List.getD_eq_getElem?_getD, List.getElem?_eq_getElem (by omega)]; rfl) (S_stack_kindOf hm ?_)
          refine cnd_of (fun e2 => ?_) (fun e2 => ?_)
          · rw [if_pos (.inr (.inl (by simpa using e2)))] at h; simpa using h
          · have hw : w64 ((s.length : Int) - 1) = ((s.length - 1 : Nat) : Int) := by rw [w64_id] <;> omega
            rw [hw]
            refine idx_nat (x := s.getD (s.length - 1) default) (by rw [List.getD_eq_getElem?_getD, List.getElem?_eq_getElem (by omega)]; rfl) (S_stack_kindOf hm ?_)
            refine cnd_of (fun e3 => ?_) (fun e3 => ?_)
            · rw [if_pos (.inr (.inr (by simpa using e3)))] at h; exact h
            · rw [if_neg (by simp at e2 e3; simp [hc, e2, e3])] at h; exact h
theorem layer_ok {m : List Material} {s : List Layer} {k : Nat} {x : Layer} (h : layerBad m s k x = 0) : kindAt m x ≠ 0 := by
  unfold layerBad at h
  intro e
  rw [if_pos e] at h; omega
theorem S_ref4_checkLayer {m : List Material} (hm : MatsOk m) {s : List Layer} (hf : Fits.fits s) (hl : s.length ≤ 60) {Q : Int → Prop} {k : Nat} {x : Layer} (hx : s[k]? = some x) (hb : ∀ j y, j < k → s[j]? = some y → kindAt m y ≠ 0) (h : Q (layerBad m s k x)) :
    M_ref4_checkLayer m s (k : Int) Q := by
  have hk := lt_of_get hx
  unfold M_ref4_checkLayer
  refine idx_nat hx (S_ref4_materialOf ?_)
  have hbf : k ≠ 0 → kindBefore m s k ≠ 0 := fun h0 => by
    unfold kindBefore
    rw [if_neg h0]
    exact hb (k - 1) _ (by omega) (by rw [List.getD_eq_getElem?_getD, List.getElem?_eq_getElem (by omega)]; rfl)
  unfold layerBad at h
  have ek : kindAt m x = (matOf m x.Material).Kind := rfl
  rw [ek] at h
  generalize (matOf m x.Material) = y at *
  refine cnd_of (fun e => ?_) (fun e => ?_)
  · rw [if_pos (by simpa using e)] at h; exact h
  · have c1 : ¬ y.Kind = 0 := by simpa using e
    rw [if_neg c1] at h
    have rest : (if (y.Kind = 1 ∧ kindBefore m s k = 1) ∨ (y.Kind = 2 ∧ kindBefore m s k ≠ 0 ∧ kindBefore m s k ≠ 1) ∨ (kindBefore m s k = 2 ∧ y.Kind ≠ 1) then Q 8 else Q 0) → M_ref4_checkLayer_k2 m s (k : Int) Q y := by
      intro h
      unfold M_ref4_checkLayer_k2
      refine cnd_of (fun e => ?_) (fun e => ?_)
      · have h0 : k = 0 := by simpa using e
        have hz : kindBefore m s k = 0 := by unfold kindBefore; rw [if_pos h0]
        rw [hz] at h
        simpa using h
      · have h0 : k ≠ 0 := by simpa using e
        have hw : w64 ((k : Int) - 1) = ((k - 1 : Nat) : Int) := by rw [w64_id] <;> omega
        rw [hw]
        refine idx_nat (x := s.getD (k - 1) default) (by rw [List.getD_eq_getElem?_getD, List.getElem?_eq_getElem (by omega)]; rfl) (S_ref4_materialOf ?_)
        have eb : kindBefore m s k = (matOf m (s.getD (k - 1) default).Material).Kind := by unfold kindBefore; rw [if_neg h0]; rfl
        have hz := hbf h0
        rw [eb] at h hz
        generalize (matOf m (s.getD (k - 1) default).Material) = z at *
        unfold M_ref4_checkLayer_k3 M_ref4_checkLayer_k4
        simp only [cnd_iff, beq_iff_eq, bne_iff_ne, ne_eq, Bool.false_eq_true, if_false] at *
        grind
    have k1 : ∀ c : Bool, (c = true ↔ ((y.Kind = 1 ∧ isWord x.Name = false) ∨ (y.Kind ≠ 1 ∧ x.Name ≠ []))) → M_ref4_checkLayer_k1 m s (k : Int) Q x y c := by
      intro c hc
      unfold M_ref4_checkLayer_k1
      cases c
      · rw [if_neg (fun e => by have := hc.2 e; cases this)] at h
        simp only [cnd_false]
        refine cnd_of (fun e => ?_) (fun e => ?_)
        · have c3 : y.Kind = 1 := by simpa using e
          refine ⟨by omega, ?_⟩
          have hs : seg s (0 : Int) (k : Int) = s.take k := by simp [seg]
          rw [hs]
          refine forIn_any (fun z => z.Name == x.Name) (fun i z next hz => ?_) (s.take k) 0 (A := Q 7) ?_
          · unfold M_ref4_checkLayer_L1; exact cnd_iff.2 hz
          · split
            · rename_i e2; rw [if_pos ⟨c3, e2⟩] at h; exact h
            · rename_i e2; rw [if_neg (fun e => e2 e.2)] at h; exact rest (by split at h <;> rename_i e3; rw [if_pos e3]; exact h; rw [if_neg e3]; exact h)
        · have c3 : ¬ y.Kind = 1 := by simpa using e
          rw [if_neg (fun e => c3 e.1)] at h
          exact rest (by split at h <;> rename_i e3; rw [if_pos e3]; exact h; rw [if_neg e3]; exact h)
      · rw [if_pos (hc.1 rfl)] at h
        rw [cnd_true]; exact h
    refine cnd_of (fun e3 => S_ref4_isWord (hf x (List.mem_of_getElem? hx)).1 (cnd_of (fun e4 => ?_) (fun e4 => ?_))) (fun e3 => ?_)
    · exact k1 true (by simp at e3 e4; simp [e3, e4])
    · have c3 : y.Kind = 1 := by simpa using e3
      have e4' : isWord x.Name = true := by simpa using e4
      simp only [c3, bne_self_eq_false, cnd_false]
      exact k1 false (by simp [c3, e4'])
    · have c3 : ¬ y.Kind = 1 := by simpa using e3
      have : (y.Kind != 1) = true := by simpa using c3
      rw [this, cnd_true]
      exact k1 _ (by simp [c3])
theorem S_ref4_CheckStack {m : List Material} {s : List Layer} (hmf : Fits.fits m) (hf : Fits.fits s) {Q : Int → Prop} (h : Q (stackFault m s)) : M_ref4_CheckStack m s Q := by
  unfold M_ref4_CheckStack
  unfold stackFault at h
  refine S_ref4_CheckMaterials hmf (cnd_of (fun e => ?_) (fun e => ?_))
  · rw [if_pos (by simpa using e)] at h; exact h
  · have e' : matsFault m = 0 := by simpa using e
    rw [if_neg (by simpa using e)] at h
    have hm := mats_ok e'
    refine cnd_of (fun e => ?_) (fun e => ?_)
    · rw [if_pos (by simpa using e)] at h; exact h
    · have hl : s.length ≤ 60 := by simp at e; omega
      rw [if_neg (by simpa using e)] at h
      have step : ∀ i x next, s[i]? = some x → (∀ j y, j < i → s[j]? = some y → kindAt m y ≠ 0) → (layerBad m s i x ≠ 0 → Q (layerBad m s i x)) → (layerBad m s i x = 0 → next) → M_ref4_CheckStack_L1 m s Q i x next := by
        intro i x next hx hj h1 h0
        unfold M_ref4_CheckStack_L1
        refine S_ref4_checkLayer hm hf hl hx hj (cnd_of (fun e => h1 (by simpa using e)) (fun e => h0 (by simpa using e)))
      have hE : (if firstBad (layerBad m s) s 0 = 0 then Q (if (copOf m s).length < 2 ∨ kindAt m (s.getD 0 default) ≠ 1 ∨ kindAt m (s.getD (s.length - 1) default) ≠ 1 then 3 else 0) else Q (firstBad (layerBad m s) s 0)) := by
        split <;> rename_i hb
        · rw [if_neg (by simpa using hb)] at h; exact h
        · rw [if_pos hb] at h; exact h
      refine forIn_checkP (layerBad m s) (fun i x next hx hj h1 h0 => step i x _ hx (fun j y hji hy => layer_ok (hj j y hji hy)) h1 h0) (Q := Q) ?_
      split at hE <;> rename_i hb
      · rw [if_pos hb]
        refine S_ref4_coppers (by omega) ?_
        unfold M_ref4_CheckStack_k2
        refine cnd_of (fun e => ?_) (fun e => ?_)
        · rw [if_pos (.inl (by simp at e; omega))] at hE; simpa using hE
        · have hc : ¬ (copOf m s).length < 2 := by simp at e; omega
          have hc2 := copTo_len m s s.length
          have hpos : 2 ≤ s.length := by unfold copOf at hc; omega
          refine idx_nat (i := 0) (x := s.getD 0 default) (by rw [List.getD_eq_getElem?_getD, List.getElem?_eq_getElem (by omega)]; rfl) (S_ref4_isCopper ?_)
          refine cnd_of (fun e2 => ?_) (fun e2 => ?_)
          · rw [if_pos (.inr (.inl (by simpa using e2)))] at hE; simpa using hE
          · have hw : w64 ((s.length : Int) - 1) = ((s.length - 1 : Nat) : Int) := by rw [w64_id] <;> omega
            rw [hw]
            refine idx_nat (x := s.getD (s.length - 1) default) (by rw [List.getD_eq_getElem?_getD, List.getElem?_eq_getElem (by omega)]; rfl) (S_ref4_isCopper ?_)
            refine cnd_of (fun e3 => ?_) (fun e3 => ?_)
            · rw [if_pos (.inr (.inr (by simpa using e3)))] at hE; exact hE
            · rw [if_neg (by simp at e2 e3; simp [hc, e2, e3])] at hE; exact hE
      · rw [if_neg hb]; exact hE
/-- a stack that is right -/
theorem stack_ok {m : List Material} {s : List Layer} (h : stackFault m s = 0) : MatsOk m ∧ s.length ≤ 60 ∧ 2 ≤ (copOf m s).length ∧ kindAt m (s.getD 0 default) = 1 ∧ kindAt m (s.getD (s.length - 1) default) = 1 ∧ ∀ i x, s[i]? = some x → layerBad m s i x = 0 := by
  unfold stackFault at h
  split at h; · omega
  rename_i h1
  split at h; · omega
  rename_i h2
  split at h; · omega
  rename_i h3
  split at h; · omega
  rename_i h4
  simp only [not_or, Nat.not_lt, Decidable.not_not] at h4 h3 h1
  exact ⟨mats_ok h1, by omega, h4.1, h4.2.1, h4.2.2, firstBad_ok h3⟩
/-! ### how thick layers are -/
def thickOf (m : List Material) (s : List Layer) : Int := s.foldl (fun n l => n + (matOf m l.Material).Thick) 0
theorem foldl_thick (m : List Material) : ∀ (s : List Layer) (n : Int), s.foldl (fun n l => n + (matOf m l.Material).Thick) n = n + thickOf m s
  | [], n => by simp [thickOf]
  | x :: r, n => by
    unfold thickOf
    simp only [List.foldl_cons, Int.zero_add]
    rw [foldl_thick m r, foldl_thick m r]
    omega
theorem thickOf_cons (m : List Material) (x : Layer) (r : List Layer) : thickOf m (x :: r) = (matOf m x.Material).Thick + thickOf m r := by
  rw [thickOf, List.foldl_cons, foldl_thick]; omega
theorem thickOf_append (m : List Material) (a b : List Layer) : thickOf m (a ++ b) = thickOf m a + thickOf m b := by
  unfold thickOf; rw [List.foldl_append, foldl_thick]; rfl
theorem thickOf_bound {m : List Material} (hm : MatsOk m) : ∀ s : List Layer, 0 ≤ thickOf m s ∧ thickOf m s ≤ 2000 * s.length
  | [] => by simp [thickOf]
  | x :: r => by
    have := thickOf_bound hm r
    obtain ⟨_, _, _, h1, h2, _⟩ := hasMat_kind hm x.Material
    rw [thickOf_cons]
    simp only [List.length_cons]
    omega
theorem thick_loop {m : List Material} (hm : MatsOk m) {s : List Layer} (hl : s.length ≤ 1000) {body : Nat → Layer → Int → (Int → Prop) → Prop} {Q : Int → Prop} (hb : ∀ k x n next, next (w64 (n + (matOf m x.Material).Thick)) → body k x n next) (h : Q (thickOf m s)) : forIn' body Q s 0 0 := by
  refine forIn0 (fun k n => n = thickOf m (s.take k)) (by simp [thickOf]) (fun k x n hx hI next hn => hb _ _ _ _ (hn _ ?_)) (fun n hI => by rw [hI, List.take_length]; exact h)
  rw [hI]
  have h1 := thickOf_bound hm (s.take (k + 1))
  have h2 : thickOf m (s.take (k + 1)) = thickOf m (s.take k) + (matOf m x.Material).Thick := by
    rw [List.take_add_one, hx, thickOf_append]; simp [thickOf_cons, thickOf]
  have h3 : (s.take (k + 1)).length ≤ 1000 := by rw [List.length_take]; omega
  rw [← h2, w64_id (by omega) (by omega)]
theorem S_stack_thick {m : List Material} (hm : MatsOk m) {s : List Layer} (hl : s.length ≤ 1000) {Q : Int → Prop} (h : Q (thickOf m s)) : M_stack_thick m s Q :=
  thick_loop hm hl (fun k x n next h => S_stack_materialOf hm h) h
theorem S_stack_Thickness {m : List Material} {s : List Layer} (hmf : Fits.fits m) (hf : Fits.fits s) {Q : Int → Int → Prop} (h : if stackFault m s = 0 then Q (thickOf m s) 0 else Q 0 (stackFault m s)) : M_stack_Thickness m s Q := by
  unfold M_stack_Thickness
  refine S_stack_CheckStack hmf hf (cnd_of (fun e => ?_) (fun e => ?_))
  · rw [if_neg (by simpa using e)] at h; exact h
  · have e' : stackFault m s = 0 := by simpa using e
    rw [if_pos e'] at h
    obtain ⟨hm, hl, _⟩ := stack_ok e'
    exact S_stack_thick hm (by omega) h
theorem S_awake {Q : Bool → Prop} (h : Q true) : M_awake Q := by
  unfold M_awake
  refine S_stack_Thickness ?_ ?_ ?_
  · intro x hx; simp at hx; rcases hx with rfl | rfl <;> exact ⟨by simp [Fits.fits], trivial, trivial, trivial⟩
  · intro x hx; simp at hx; rcases hx with rfl | rfl | rfl <;> exact ⟨by simp [Fits.fits], by simp [Fits.fits]⟩
  · have h1 : stackFault [⟨[99], 1, 2, 0⟩, ⟨[103], 3, 3, 0⟩] [⟨[97], [99]⟩, ⟨[], [103]⟩, ⟨[98], [99]⟩] = 0 := by decide +kernel
    have h2 : thickOf [⟨[99], 1, 2, 0⟩, ⟨[103], 3, 3, 0⟩] [⟨[97], [99]⟩, ⟨[], [103]⟩, ⟨[98], [99]⟩] = 7 := by decide +kernel
    rw [if_pos h1, h2]
    simpa using h
end Go.Proofs.YtdnilnmdbgcmoaaGreatDoor

/- Writing stacks: what is written, by both, and read as it; the law. -/
import Derived.Test.YtdnilnmdbgcmoaaGreatDoorTextH
import Derived.Test.YtdnilnmdbgcmoaaGreatDoorTextG
import Derived.Test.YtdnilnmdbgcmoaaGreatDoorTextR
namespace Go.Proofs.YtdnilnmdbgcmoaaGreatDoor
open Go Go.RowKit Go.Proofs Go.Shelf
set_option linter.unusedVariables false

/-! ### what is written -/
def kindName (k : Int) : Str := ([[], wCopper, [99, 111, 114, 101], [103, 108, 117, 101]] : List Str).getD k.toNat []
def matLine (x : Material) : Str := ((((((([109, 97, 116, 101, 114, 105, 97, 108, 32] ++ x.Name) ++ [32]) ++ kindName x.Kind) ++ [32]) ++ itoaS x.Thick) ++ [32]) ++ itoaS x.Grow) ++ [10]
def layLine (x : Layer) : Str := if x.Name = [] then ([108, 97, 121, 101, 114, 32] ++ x.Material) ++ [10] else (((([99, 111, 112, 112, 101, 114, 32] ++ x.Name) ++ [32]) ++ x.Material) ++ [10])
def textS (m : List Material) (s : List Layer) : Str := m.flatMap matLine ++ s.flatMap layLine

theorem good_byte {b : UInt8} (h : badByte b = false) : rowByte b = true := by
  have key : ∀ n, n < 256 → badByte (UInt8.ofNat n) = false → rowByte (UInt8.ofNat n) = true := by decide +kernel
  have := key b.toNat (UInt8.toNat_lt b)
  rw [UInt8.ofNat_toNat] at this
  exact this h
theorem word_row {s : Str} (h : isWord s = true) : isRowS s = true ∧ s.length ≤ 40 := by
  unfold isWord at h
  simp only [Bool.and_eq_true, Bool.not_eq_true', decide_eq_true_eq] at h
  refine ⟨?_, h.2⟩
  unfold isRowS
  rw [Bool.and_eq_true]
  constructor
  · have : s ≠ [] := by intro e; rw [e] at h; simp at h
    simpa using this
  · refine List.all_eq_true.2 fun b hb => ?_
    have := (List.any_eq_false.1 h.1.1) b hb
    exact good_byte (by simpa using this)
theorem kindName_facts {k : Int} (h : within k 1 3 = true) : k = kindOf (kindName k) ∧ (kindName k).length ≤ 6 ∧ isRowS (kindName k) = true ∧ 0 < k := by
  unfold within at h
  simp at h
  have : k = 1 ∨ k = 2 ∨ k = 3 := by omega
  rcases this with rfl | rfl | rfl <;> exact ⟨by decide, by decide, by decide, by decide⟩
/-- a material that can be written -/
structure MatW (x : Material) : Prop where
  name : isRowS x.Name = true
  len : x.Name.length ≤ 40
  kind : within x.Kind 1 3 = true
  thick : 0 ≤ x.Thick ∧ x.Thick ≤ 2000
  grow : 0 ≤ x.Grow ∧ x.Grow ≤ 1000
structure LayW (x : Layer) : Prop where
  mat : isRowS x.Material = true ∧ x.Material.length ≤ 40
  name : x.Name = [] ∨ (isRowS x.Name = true ∧ x.Name.length ≤ 40)
theorem matsW {m : List Material} (h : MatsOk m) : ∀ x ∈ m, MatW x := fun x hx => by
  obtain ⟨h1, h2, h3, h4⟩ := h.each x hx
  obtain ⟨h5, h6⟩ := word_row h1
  unfold within at h3 h4
  simp at h3 h4
  exact ⟨h5, h6, h2, by omega, by omega⟩
theorem laysW {m : List Material} {s : List Layer} (h : stackFault m s = 0) : ∀ x ∈ s, LayW x := fun x hx => by
  obtain ⟨hm, hl, _, _, _, hb⟩ := stack_ok h
  obtain ⟨i, hi, rfl⟩ := List.mem_iff_getElem.1 hx
  have hbi := hb i s[i] (List.getElem?_eq_getElem hi)
  unfold layerBad at hbi
  split at hbi; · cases hbi
  rename_i hk
  split at hbi; · cases hbi
  rename_i hn
  constructor
  · unfold kindAt matOf at hk
    cases hf : m.find? (fun x => x.Name == (s[i]).Material) with
    | none => rw [hf] at hk; exact absurd rfl hk
    | some y =>
      have h1 := List.find?_some hf
      have h2 := hm.each y (List.mem_of_find?_eq_some hf)
      have h3 : y.Name = (s[i]).Material := by simpa using h1
      rw [h3] at h2
      exact word_row h2.1
  · by_cases h1 : kindAt m s[i] = 1
    · right
      have : isWord (s[i]).Name = true := by
        cases hw : isWord (s[i]).Name
        · exact absurd (.inl ⟨h1, hw⟩) hn
        · rfl
      exact word_row this
    · left
      exact Classical.byContradiction fun h2 => hn (.inr ⟨h1, h2⟩)
theorem matLine_len {x : Material} (h : MatW x) : (matLine x).length ≤ 100 := by
  have h1 := h.len
  have h2 := (kindName_facts h.kind).2.1
  have h3 := itoa_short (n := x.Thick) (by have := h.thick; omega) (by have := h.thick; omega)
  have h4 := itoa_short (n := x.Grow) (by have := h.grow; omega) (by have := h.grow; omega)
  unfold matLine itoaS
  simp only [List.length_append, List.length_cons, List.length_nil]
  omega
theorem layLine_len {x : Layer} (h : LayW x) : (layLine x).length ≤ 100 := by
  have h1 := h.mat.2
  have h2 : x.Name.length ≤ 40 := by rcases h.name with h' | h'; · rw [h']; simp
                                     · exact h'.2
  unfold layLine
  split <;> simp only [List.length_append, List.length_cons, List.length_nil] <;> omega
theorem flatMap_len {α : Type} (f : α → Str) (k : Nat) : ∀ (l : List α), (∀ x ∈ l, (f x).length ≤ k) → (l.flatMap f).length ≤ k * l.length
  | [], _ => by simp
  | x :: r, h => by
    rw [List.flatMap_cons, List.length_append, List.length_cons, Nat.mul_succ]
    have h1 := h x (List.mem_cons_self ..)
    have h2 := flatMap_len f k r (fun y hy => h y (List.mem_cons_of_mem _ hy))
    omega
theorem take_flat {α : Type} (f : α → Str) {l : List α} {k : Nat} {x : α} (hx : l[k]? = some x) : (l.take (k + 1)).flatMap f = (l.take k).flatMap f ++ f x := by
  rw [List.take_add_one, hx, List.flatMap_append]; simp

theorem S_stack_Text {m : List Material} {s : List Layer} (hmf : Fits.fits m) (hf : Fits.fits s) {Q : Str → Int → Prop} (h : if stackFault m s = 0 then (textS m s).length ≤ 20000 → Q (textS m s) 0 else Q [] (stackFault m s)) : M_stack_Text m s Q := by
  unfold M_stack_Text
  refine S_stack_CheckStack hmf hf (cnd_of (fun e => ?_) (fun e => ?_))
  · rw [if_neg (by simpa using e)] at h; exact h
  have e' : stackFault m s = 0 := by simpa using e
  rw [if_pos e'] at h
  have hm := (stack_ok e').1
  have hsl := (stack_ok e').2.1
  have hmw := matsW hm
  have hlw := laysW e'
  have hml := hm.len
  have len1 : ∀ k, ((m.take k).flatMap matLine).length ≤ 5000 := fun k => by
    have := flatMap_len matLine 100 (m.take k) (fun x hx => matLine_len (hmw x (List.mem_of_mem_take hx)))
    have h2 : (m.take k).length ≤ 50 := by rw [List.length_take]; omega
    omega
  have len2 : ∀ k, ((s.take k).flatMap layLine).length ≤ 6000 := fun k => by
    have := flatMap_len layLine 100 (s.take k) (fun x hx => layLine_len (hlw x (List.mem_of_mem_take hx)))
    have h2 : (s.take k).length ≤ 60 := by rw [List.length_take]; omega
    omega
  refine forIn0 (fun k (st : List UInt8 × Bool) => st.1 = (m.take k).flatMap matLine) rfl (fun k x st hx hI next hn => ?_) (fun st hI => ?_)
  · have hw := hmw x (List.mem_of_getElem? hx)
    have hll := matLine_len hw
    have hk := kindName_facts hw.kind
    have ht := hw.thick
    have hg := hw.grow
    have hl1 := len1 k
    unfold M_stack_Text_L1 M_bld_WriteString M_bld_copyCheck
    unfold matLine itoaS at hll
    simp only [List.length_append, List.length_cons, List.length_nil] at hll
    have hix : ([[], [99, 111, 112, 112, 101, 114], [99, 111, 114, 101], [103, 108, 117, 101]] : List Str)[x.Kind.toNat]? = some (kindName x.Kind) := by
      have := hk.2.2.2
      have h3 := hw.kind
      unfold within at h3
      simp at h3
      have : x.Kind = 1 ∨ x.Kind = 2 ∨ x.Kind = 3 := by omega
      rcases this with e | e | e <;> rw [e] <;> rfl
    unfold itoaS
    refine ⟨by simp only [List.length_append, List.length_cons, List.length_nil]; omega, by simp only [List.length_append, List.length_cons, List.length_nil]; omega, by omega, kindName x.Kind, hix, ?_⟩
    refine ⟨by simp only [List.length_append, List.length_cons, List.length_nil]; omega, by simp only [List.length_append, List.length_cons, List.length_nil]; omega, ⟨by omega, by omega⟩, ?_⟩
    refine ⟨by simp only [List.length_append, List.length_cons, List.length_nil]; omega, by simp only [List.length_append, List.length_cons, List.length_nil]; omega, ⟨by omega, by omega⟩, ?_⟩
    refine ⟨by simp only [List.length_append, List.length_cons, List.length_nil]; omega, by simp only [List.length_append, List.length_cons, List.length_nil]; omega, ?_⟩
    have hI' : st.1.length ≤ 5000 := by rw [hI]; exact hl1
    refine ⟨⟨by simp only [List.length_append, List.length_cons, List.length_nil]; omega, by simp only [List.length_append, List.length_cons, List.length_nil]; omega⟩, ?_⟩
    refine hn _ ?_
    show st.1 ++ matLine x = _
    rw [take_flat matLine hx, hI]
  · have hI' : st.1 = m.flatMap matLine := by rw [hI, List.take_length]
    refine forIn0 (fun k (st : List UInt8 × Bool) => st.1 = m.flatMap matLine ++ (s.take k).flatMap layLine) (by simp [hI']) (fun k x st hx hI next hn => ?_) (fun st hI => ?_)
    · have hw := hlw x (List.mem_of_getElem? hx)
      have hm1 := hw.mat.2
      have hl2 := len2 k
      have hl1 := len1 m.length
      rw [List.take_length] at hl1
      have hI2 : st.1.length ≤ 11000 := by rw [hI, List.length_append]; omega
      unfold M_stack_Text_L2 M_bld_WriteString M_bld_copyCheck
      refine cnd_of (fun e => ?_) (fun e => ?_)
      · have hne : ¬ x.Name = [] := by simpa using e
        have hnl : x.Name.length ≤ 40 := by rcases hw.name with h' | h'; · exact absurd h' hne
                                            · exact h'.2
        refine ⟨by simp only [List.length_append, List.length_cons, List.length_nil]; omega, by simp only [List.length_append, List.length_cons, List.length_nil]; omega, by simp only [List.length_append, List.length_cons, List.length_nil]; omega, by simp only [List.length_append, List.length_cons, List.length_nil]; omega, ⟨by simp only [List.length_append, List.length_cons, List.length_nil]; omega, by simp only [List.length_append, List.length_cons, List.length_nil]; omega⟩, hn _ ?_⟩
        rw [take_flat layLine hx, hI, List.append_assoc]
        show _ = _ ++ (_ ++ layLine x)
        unfold layLine
        rw [if_neg hne]
      · have hne : x.Name = [] := by simpa using e
        refine ⟨by simp only [List.length_append, List.length_cons, List.length_nil]; omega, by simp only [List.length_append, List.length_cons, List.length_nil]; omega, ⟨by simp only [List.length_append, List.length_cons, List.length_nil]; omega, by simp only [List.length_append, List.length_cons, List.length_nil]; omega⟩, hn _ ?_⟩
        rw [take_flat layLine hx, hI, List.append_assoc]
        show _ = _ ++ (_ ++ layLine x)
        unfold layLine
        rw [if_pos hne]
    · have hI2 : st.1 = textS m s := by rw [hI, List.take_length]; rfl
      have hl1 := len1 m.length
      have hl2 := len2 s.length
      rw [List.take_length] at hl1 hl2
      have hlt : (textS m s).length ≤ 11000 := by unfold textS; rw [List.length_append]; omega
      unfold M_bld_Len
      refine cnd_of (fun e => ?_) (fun e => ?_)
      · exfalso
        have : 50000 < ((st.1.length : Nat) : Int) := by simpa using e
        rw [hI2] at this; omega
      · rw [hI2]; exact h (by omega)

end Go.Proofs.YtdnilnmdbgcmoaaGreatDoor

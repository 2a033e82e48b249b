/- Writing stacks: the reference; read as it was written; the law. -/
import Derived.Test.YtdnilnmdbgcmoaaGreatDoorTextI
namespace Go.Proofs.YtdnilnmdbgcmoaaGreatDoor
open Go Go.RowKit Go.Proofs Go.Shelf
set_option linter.unusedVariables false

theorem S_ref4_Text {m : List Material} {s : List Layer} (hmf : Fits.fits m) (hf : Fits.fits s) {Q : Str → Int → Prop} (h : if stackFault m s = 0 then (textS m s).length ≤ 20000 → Q (textS m s) 0 else Q [] (stackFault m s)) : M_ref4_Text m s Q := by
  unfold M_ref4_Text
  refine S_ref4_CheckStack hmf hf (cnd_of (fun e => ?_) (fun e => ?_))
  · rw [if_neg (by simpa using e)] at h; exact h
  have e' : stackFault m s = 0 := by simpa using e
  rw [if_pos e'] at h
  have hm := (stack_ok e').1
  have hsl := (stack_ok e').2.1
  have hmw := matsW hm
  have hlw := laysW e'
  have hml := hm.len
  have len1 : ∀ k, ((m.take k).flatMap matLine).length ≤ 5000 := fun k => by
    have := flatMap_len matLine 100 (m.take k) (fun x hx => matLine_len (hmw x (List.mem_of_mem_take hx)))
    have h2 : (m.take k).length ≤ 50 := by rw [List.length_take]; omega
    omega
  have len2 : ∀ k, ((s.take k).flatMap layLine).length ≤ 6000 := fun k => by
    have := flatMap_len layLine 100 (s.take k) (fun x hx => layLine_len (hlw x (List.mem_of_mem_take hx)))
    have h2 : (s.take k).length ≤ 60 := by rw [List.length_take]; omega
    omega
  refine forIn0 (fun k (st : Str) => st = (m.take k).flatMap matLine) rfl (fun k x st hx hI next hn => ?_) (fun st hI => ?_)
  · have hw := hmw x (List.mem_of_getElem? hx)
    have hll := matLine_len hw
    have hk := kindName_facts hw.kind
    have ht := hw.thick
    have hg := hw.grow
    have hl1 := len1 k
    have hi1 : isI64 x.Thick := ⟨by omega, by omega⟩
    have hi2 : isI64 x.Grow := ⟨by omega, by omega⟩
    have hI' : st.length ≤ 5000 := by rw [hI]; exact hl1
    have go := hn (st ++ matLine x) (by rw [take_flat matLine hx, hI])
    unfold M_ref4_Text_L1
    unfold matLine itoaS at hll
    simp only [List.length_append, List.length_cons, List.length_nil] at hll
    have hwk : w64 (x.Kind - 1) = x.Kind - 1 ∧ ([wCopper, [99, 111, 114, 101], [103, 108, 117, 101]] : List Str)[(x.Kind - 1).toNat]? = some (kindName x.Kind) := by
      have := hk.2.2.2
      have h3 := hw.kind
      unfold within at h3
      simp at h3
      have : x.Kind = 1 ∨ x.Kind = 2 ∨ x.Kind = 3 := by omega
      rcases this with e | e | e <;> rw [e] <;> exact ⟨by decide, rfl⟩
    have hsp : Lib.split [99, 111, 112, 112, 101, 114, 32, 99, 111, 114, 101, 32, 103, 108, 117, 101] [32] = ([wCopper, [99, 111, 114, 101], [103, 108, 117, 101]] : List Str) := by decide
    refine ⟨by simp only [List.length_append, List.length_cons, List.length_nil]; omega, by simp only [List.length_append, List.length_cons, List.length_nil]; omega, S_strings_Split (by decide) ?_⟩
    rw [hsp, hwk.1]
    refine ⟨by omega, kindName x.Kind, hwk.2, ?_⟩
    unfold itoaS
    unfold matLine itoaS at go
    repeat' (first | exact go | exact hi1 | exact hi2 | (refine And.intro ?_ ?_) | (show _ ≤ (9223372036854775807 : Nat); simp only [List.length_append, List.length_cons, List.length_nil]; omega))
  · have hI' : st = m.flatMap matLine := by rw [hI, List.take_length]
    refine forIn0 (fun k (st : Str) => st = m.flatMap matLine ++ (s.take k).flatMap layLine) (by simp [hI']) (fun k x st hx hI next hn => ?_) (fun st hI => ?_)
    · have hw := hlw x (List.mem_of_getElem? hx)
      have hm1 := hw.mat.2
      have hl2 := len2 k
      have hl1 := len1 m.length
      rw [List.take_length] at hl1
      have hI2 : st.length ≤ 11000 := by rw [hI, List.length_append]; omega
      unfold M_ref4_Text_L2
      refine cnd_of (fun e => ?_) (fun e => ?_)
      · have hne : x.Name = [] := by simpa using e
        refine ⟨by simp only [List.length_append, List.length_cons, List.length_nil]; omega, by simp only [List.length_append, List.length_cons, List.length_nil]; omega, by simp only [List.length_append, List.length_cons, List.length_nil]; omega, hn _ ?_⟩
        rw [take_flat layLine hx, hI, List.append_assoc]
        show _ = _ ++ (_ ++ layLine x)
        unfold layLine
        rw [if_pos hne]
      · have hne : ¬ x.Name = [] := by simpa using e
        have hnl : x.Name.length ≤ 40 := by rcases hw.name with h' | h'; · exact absurd h' hne
                                            · exact h'.2
        refine ⟨by simp only [List.length_append, List.length_cons, List.length_nil]; omega, by simp only [List.length_append, List.length_cons, List.length_nil]; omega, by simp only [List.length_append, List.length_cons, List.length_nil]; omega, by simp only [List.length_append, List.length_cons, List.length_nil]; omega, by simp only [List.length_append, List.length_cons, List.length_nil]; omega, hn _ ?_⟩
        rw [take_flat layLine hx, hI, List.append_assoc]
        show _ = _ ++ (_ ++ layLine x)
        unfold layLine
        rw [if_neg hne]
    · have hI2 : st = textS m s := by rw [hI, List.take_length]; rfl
      have hl1 := len1 m.length
      have hl2 := len2 s.length
      rw [List.take_length] at hl1 hl2
      have hlt : (textS m s).length ≤ 11000 := by unfold textS; rw [List.length_append]; omega
      refine cnd_of (fun e => ?_) (fun e => ?_)
      · exfalso
        have : 50000 < ((st.length : Nat) : Int) := by simpa using e
        rw [hI2] at this; omega
      · rw [hI2]; exact h (by omega)

/-! ### read as it was written -/
theorem cut_of {t L r : Str} (ht : t = L ++ 10 :: r) (hL : ∀ b ∈ L, b ≠ 10) : t ≠ [] ∧ cutS t 10 = (L, r, true) := by
  rw [ht]; exact ⟨by simp, cutS_line L r hL⟩
theorem mem10 {l : Str} (h : isRowS l = true) : ∀ b ∈ l, b ≠ 10 := fun b hb => (row_bytes h b hb).2
theorem mem32 {l : Str} (h : isRowS l = true) : ∀ b ∈ l, b ≠ 32 := fun b hb => (row_bytes h b hb).1
theorem read_mat {k : Nat} {t : Str} {n : Int} {m1 : List Material} {x : Material} (hx : MatW x) : readS (k + 1) (matLine x ++ t) n m1 [] = readS k t (n + 1) (m1 ++ [x]) [] := by
  have hk := kindName_facts hx.kind
  have ht := numOf_itoa (n := x.Thick) (by have := hx.thick; omega) (by have := hx.thick; omega)
  have hg := numOf_itoa (n := x.Grow) (by have := hx.grow; omega) (by have := hx.grow; omega)
  have r1 := hx.name
  have r2 := hk.2.2.1
  have r3 := itoa_row (n := x.Thick) (by have := hx.thick; omega) (by have := hx.thick; omega)
  have r4 := itoa_row (n := x.Grow) (by have := hx.grow; omega) (by have := hx.grow; omega)
  have r0 : isRowS wMaterial = true := by decide
  have e : matLine x ++ t = (wMaterial ++ 32 :: (x.Name ++ 32 :: (kindName x.Kind ++ 32 :: (Lib.itoa x.Thick ++ 32 :: Lib.itoa x.Grow)))) ++ 10 :: t := by
    unfold matLine itoaS wMaterial
    simp
  obtain ⟨hne, hc⟩ := cut_of e (by
    intro b hb
    simp only [List.mem_append, List.mem_cons] at hb
    rcases hb with hb | hb | hb | hb | hb | hb | hb | hb | hb
    · exact mem10 r0 b hb
    · rw [hb]; decide
    · exact mem10 r1 b hb
    · rw [hb]; decide
    · exact mem10 r2 b hb
    · rw [hb]; decide
    · exact mem10 r3 b hb
    · rw [hb]; decide
    · exact mem10 r4 b hb)
  have hs : Lib.split (wMaterial ++ 32 :: (x.Name ++ 32 :: (kindName x.Kind ++ 32 :: (Lib.itoa x.Thick ++ 32 :: Lib.itoa x.Grow)))) [32] = [wMaterial, x.Name, kindName x.Kind, Lib.itoa x.Thick, Lib.itoa x.Grow] := by
    rw [split_word _ _ (mem32 r0), split_word _ _ (mem32 r1), split_word _ _ (mem32 r2), split_word _ _ (mem32 r3), split_last _ (mem32 r4)]
  conv => lhs; unfold readS
  rw [if_neg hne, hc]
  dsimp only
  rw [hs, lineOf_mat, ht, hg, ← hk.1, if_pos ⟨r1, hk.2.2.2, rfl, rfl⟩]
theorem read_lay {k : Nat} {t : Str} {n : Int} {m1 : List Material} {s1 : List Layer} {x : Layer} (hx : LayW x) : readS (k + 1) (layLine x ++ t) n m1 s1 = readS k t (n + 1) m1 (s1 ++ [x]) := by
  have r1 := hx.mat.1
  have r0 : isRowS wLayer = true := by decide
  have r9 : isRowS wCopper = true := by decide
  by_cases hn : x.Name = []
  · have e : layLine x ++ t = (wLayer ++ 32 :: x.Material) ++ 10 :: t := by
      unfold layLine wLayer
      rw [if_pos hn]
      simp
    obtain ⟨hne, hc⟩ := cut_of e (by
      intro b hb
      simp only [List.mem_append, List.mem_cons] at hb
      rcases hb with hb | hb | hb
      · exact mem10 r0 b hb
      · rw [hb]; decide
      · exact mem10 r1 b hb)
    have hs : Lib.split (wLayer ++ 32 :: x.Material) [32] = [wLayer, x.Material] := by
      rw [split_word _ _ (mem32 r0), split_last _ (mem32 r1)]
    conv => lhs; unfold readS
    rw [if_neg hne, hc]
    show (match true, lineOf m1 s1 (Lib.split (wLayer ++ 32 :: x.Material) [32]) with | true, some (m', s') => readS k t (n + 1) m' s' | _, _ => ([], [], n, 10)) = _
    rw [hs, lineOf_layer, if_pos r1, ← hn]
  · have r2 : isRowS x.Name = true := by rcases hx.name with h | h; · exact absurd h hn
                                         · exact h.1
    have e : layLine x ++ t = (wCopper ++ 32 :: (x.Name ++ 32 :: x.Material)) ++ 10 :: t := by
      unfold layLine wCopper
      rw [if_neg hn]
      simp
    obtain ⟨hne, hc⟩ := cut_of e (by
      intro b hb
      simp only [List.mem_append, List.mem_cons] at hb
      rcases hb with hb | hb | hb | hb | hb
      · exact mem10 r9 b hb
      · rw [hb]; decide
      · exact mem10 r2 b hb
      · rw [hb]; decide
      · exact mem10 r1 b hb)
    have hs : Lib.split (wCopper ++ 32 :: (x.Name ++ 32 :: x.Material)) [32] = [wCopper, x.Name, x.Material] := by
      rw [split_word _ _ (mem32 r9), split_word _ _ (mem32 r2), split_last _ (mem32 r1)]
    conv => lhs; unfold readS
    rw [if_neg hne, hc]
    show (match true, lineOf m1 s1 (Lib.split (wCopper ++ 32 :: (x.Name ++ 32 :: x.Material)) [32]) with | true, some (m', s') => readS k t (n + 1) m' s' | _, _ => ([], [], n, 10)) = _
    rw [hs, lineOf_copper, if_pos ⟨r2, r1⟩]
theorem read_mats : ∀ (m : List Material) (k : Nat) (t : Str) (n : Int) (m1 : List Material), (∀ x ∈ m, MatW x) → readS (m.length + k) (m.flatMap matLine ++ t) n m1 [] = readS k t (n + m.length) (m1 ++ m) []
  | [], k, t, n, m1, _ => by simp
  | x :: r, k, t, n, m1, h => by
    have e : (x :: r).length + k = (r.length + k) + 1 := by rw [List.length_cons]; omega
    rw [e, List.flatMap_cons, List.append_assoc, read_mat (h x (List.mem_cons_self ..)), read_mats r k t _ _ (fun y hy => h y (List.mem_cons_of_mem _ hy))]
    congr 1
    · rw [List.length_cons]; omega
    · simp
theorem read_lays : ∀ (s : List Layer) (k : Nat) (t : Str) (n : Int) (m1 : List Material) (s1 : List Layer), (∀ x ∈ s, LayW x) → readS (s.length + k) (s.flatMap layLine ++ t) n m1 s1 = readS k t (n + s.length) m1 (s1 ++ s)
  | [], k, t, n, m1, s1, _ => by simp
  | x :: r, k, t, n, m1, s1, h => by
    have e : (x :: r).length + k = (r.length + k) + 1 := by rw [List.length_cons]; omega
    rw [e, List.flatMap_cons, List.append_assoc, read_lay (h x (List.mem_cons_self ..)), read_lays r k t _ _ _ (fun y hy => h y (List.mem_cons_of_mem _ hy))]
    congr 1
    · rw [List.length_cons]; omega
    · simp
theorem flatMap_many {α : Type} (f : α → Str) (hf : ∀ x, 1 ≤ (f x).length) : ∀ l : List α, l.length ≤ (l.flatMap f).length
  | [] => by simp
  | x :: r => by
    have := hf x
    have := flatMap_many f hf r
    rw [List.flatMap_cons, List.length_append, List.length_cons]; omega
theorem read_text {m : List Material} {s : List Layer} (h : stackFault m s = 0) : readS ((textS m s).length + 1) (textS m s) 1 [] [] = (m, s, 0, 0) := by
  have hm := matsW (stack_ok h).1
  have hl := laysW h
  have h1 := flatMap_many matLine (fun x => by unfold matLine; rw [List.length_append]; simp) m
  have h2 := flatMap_many layLine (fun x => by unfold layLine; split <;> rw [List.length_append] <;> simp) s
  have hlen : (textS m s).length = (m.flatMap matLine).length + (s.flatMap layLine).length := by unfold textS; rw [List.length_append]
  obtain ⟨j, hj⟩ : ∃ j, (textS m s).length + 1 = m.length + (s.length + (j + 1)) := ⟨(textS m s).length - m.length - s.length, by omega⟩
  rw [hj]
  have e : textS m s = m.flatMap matLine ++ (s.flatMap layLine ++ []) := by unfold textS; rw [List.append_nil]
  rw [e, read_mats m _ _ _ _ hm, read_lays s _ _ _ _ _ hl]
  unfold readS
  rw [if_pos rfl, List.nil_append, List.nil_append, if_pos h]
theorem law_StackTexts_true (m : List Material) (s : List Layer) (hm : Fits.fits m) (hs : Fits.fits s) : M_law_StackTexts m s (· = true) := by
  unfold M_law_StackTexts
  have fin : ∀ (t : Str) (f : Int), (f = 0 → t = textS m s ∧ stackFault m s = 0 ∧ t.length ≤ 20000) → M_law_StackTexts_k1 m s (· = true) t f false := by
    intro t f hf
    unfold M_law_StackTexts_k1
    refine cnd_of (fun e => by cases e) (fun _ => cnd_of (fun _ => rfl) (fun e => ?_))
    obtain ⟨h1, h2, h3⟩ := hf (by simpa using e)
    refine S_stack_Read ?_
    rw [if_neg (by omega)]
    intro a ha
    rw [h1, read_text h2] at ha
    subst ha
    exact cnd_of (fun _ => cnd_of (fun _ => S_equal_material (cnd_of (fun _ => S_equal_layer (by simp)) (fun e => by simp at e))) (fun e => by simp at e)) (fun e => by simp at e)
  have both : ∀ (t : Str) (f : Int), (f = 0 → t = textS m s ∧ stackFault m s = 0 ∧ t.length ≤ 20000) → cnd (f != f) (M_law_StackTexts_k1 m s (· = true) t f true) (cnd (!(t == t)) (M_law_StackTexts_k1 m s (· = true) t f true) (M_awake fun y11 => M_law_StackTexts_k1 m s (· = true) t f (!y11))) := by
    intro t f hf
    refine cnd_of (fun e => by simp at e) (fun _ => cnd_of (fun e => by simp at e) (fun _ => S_awake ?_))
    exact fin t f hf
  refine S_stack_Text hm hs ?_
  split
  · rename_i h0
    intro hl
    refine S_ref4_Text hm hs ?_
    rw [if_pos h0]
    intro _
    exact both _ _ (fun _ => ⟨rfl, h0, hl⟩)
  · rename_i h0
    refine S_ref4_Text hm hs ?_
    rw [if_neg h0]
    exact both _ _ (fun e => absurd e h0)

end Go.Proofs.YtdnilnmdbgcmoaaGreatDoor

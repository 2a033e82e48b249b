/- Writing bits and jobs: what is written, by both; read as it was written; the law. -/
import Derived.Test.YtdnilnmdbgcmoaaGreatDoorDrG
import Derived.Test.YtdnilnmdbgcmoaaGreatDoorDrD
import Derived.Test.YtdnilnmdbgcmoaaGreatDoorTextS
namespace Go.Proofs.YtdnilnmdbgcmoaaGreatDoor
open Go Go.RowKit Go.Proofs Go.Shelf
set_option linter.unusedVariables false

/-! ### what is written -/
def markS (b : Bool) : Str := if b then wP else wDash
def bitWords (x : Bit) : List Str := [wTool, x.Name, Lib.itoa x.Size, Lib.itoa x.Life, Lib.itoa x.Stack]
def jobWords (x : Job) : List Str := [wJob, x.Tool]
def holeWords (h : Hole) : List Str := [wHole, Lib.itoa h.At.X, Lib.itoa h.At.Y, Lib.itoa h.Size, Lib.itoa h.Depth, markS h.Plated]
def bitLine (x : Bit) : Str := joinS (bitWords x) ++ [10]
def holeLine (h : Hole) : Str := joinS (holeWords h) ++ [10]
def jobText (x : Job) : Str := (joinS (jobWords x) ++ [10]) ++ x.Holes.flatMap holeLine
def textD (t : List Bit) (j : List Job) : Str := t.flatMap bitLine ++ j.flatMap jobText
theorem good_byte {b : UInt8} (h : badByte b = false) : rowByte b = true := by
  have key : ∀ n, n < 256 → badByte (UInt8.ofNat n) = false → rowByte (UInt8.ofNat n) = true := by decide +kernel
  have := key b.toNat (UInt8.toNat_lt b)
  rw [UInt8.ofNat_toNat] at this
  exact this h
theorem word_row {s : Str} (h : isWord s = true) : isRowS s = true ∧ s.length ≤ 40 := by
  unfold isWord at h
  simp only [Bool.and_eq_true, Bool.not_eq_true', decide_eq_true_eq] at h
  refine ⟨?_, h.2⟩
  unfold isRowS
  rw [Bool.and_eq_true]
  constructor
  · have : s ≠ [] := by intro e; rw [e] at h; simp at h
    simpa using this
  · refine List.all_eq_true.2 fun b hb => ?_
    have := (List.any_eq_false.1 h.1.1) b hb
    exact good_byte (by simpa using this)
structure BitW (x : Bit) : Prop where
  name : isRowS x.Name = true ∧ x.Name.length ≤ 40
  size : 0 ≤ x.Size ∧ x.Size ≤ 100000
  life : 0 ≤ x.Life ∧ x.Life ≤ 100000
  stack : 0 ≤ x.Stack ∧ x.Stack ≤ 100000
structure HoleW (h : Hole) : Prop where
  x : -1000000 ≤ h.At.X ∧ h.At.X ≤ 1000000
  y : -1000000 ≤ h.At.Y ∧ h.At.Y ≤ 1000000
  size : 0 ≤ h.Size ∧ h.Size ≤ 100000
  depth : 0 ≤ h.Depth ∧ h.Depth ≤ 100000
structure JobW (x : Job) : Prop where
  tool : isRowS x.Tool = true ∧ x.Tool.length ≤ 40
  many : x.Holes.length ≤ 2000
  holes : ∀ h ∈ x.Holes, HoleW h
theorem bitsW {t : List Bit} (h : toolsFault t = 0) : ∀ x ∈ t, BitW x := fun x hx => by
  obtain ⟨_, _, h3⟩ := tools_ok h
  obtain ⟨h1, h2, h3, h4⟩ := h3 x hx
  unfold within at h2 h3 h4
  simp at h2 h3 h4
  exact ⟨word_row h1, by omega, by omega, by omega⟩
theorem jobsW {t : List Bit} {j : List Job} (h : jobsFault t j = 0) : ∀ x ∈ j, JobW x := fun x hx => by
  obtain ⟨h1, _, h3, _⟩ := jobs_ok h
  obtain ⟨i, hi, rfl⟩ := List.mem_iff_getElem.1 hx
  obtain ⟨b1, b2, y, hy⟩ := jobBad_len (h3 i j[i] (List.getElem?_eq_getElem hi))
  refine ⟨?_, b1, fun q hq => ?_⟩
  · unfold findTool at hy
    have e1 := List.find?_some hy
    have e2 := (tools_ok h1).2.2 y (List.mem_of_find?_eq_some hy)
    have e3 : y.Name = (j[i]).Tool := by simpa using e1
    rw [e3] at e2
    exact word_row e2.1
  · unfold holesFault at b2
    split at b2; · cases b2
    split at b2; · cases b2
    rename_i ha
    have hb : holeBad q = false := by
      cases hb : holeBad q
      · rfl
      · exact absurd (List.any_eq_true.2 ⟨q, hq, hb⟩) ha
    unfold holeBad isPoint within at hb
    simp at hb
    exact ⟨by omega, by omega, by omega, by omega⟩
theorem bit_short {x : Bit} (h : BitW x) : ∀ y ∈ bitWords x, y.length ≤ 200 := by
  intro y hy
  have h1 := h.name.2
  have i1 := itoa_short (n := x.Size) (by have := h.size; omega) (by have := h.size; omega)
  have i2 := itoa_short (n := x.Life) (by have := h.life; omega) (by have := h.life; omega)
  have i3 := itoa_short (n := x.Stack) (by have := h.stack; omega) (by have := h.stack; omega)
  unfold bitWords at hy
  simp only [List.mem_cons, List.not_mem_nil, or_false] at hy
  rcases hy with rfl | rfl | rfl | rfl | rfl <;> first | omega | decide
theorem job_short {x : Job} (h : JobW x) : ∀ y ∈ jobWords x, y.length ≤ 200 := by
  intro y hy
  have h1 := h.tool.2
  unfold jobWords at hy
  simp only [List.mem_cons, List.not_mem_nil, or_false] at hy
  rcases hy with rfl | rfl <;> first | omega | decide
theorem hole_short {x : Hole} (h : HoleW x) : ∀ y ∈ holeWords x, y.length ≤ 200 := by
  intro y hy
  have i1 := itoa_short (n := x.At.X) (by have := h.x; omega) (by have := h.x; omega)
  have i2 := itoa_short (n := x.At.Y) (by have := h.y; omega) (by have := h.y; omega)
  have i3 := itoa_short (n := x.Size) (by have := h.size; omega) (by have := h.size; omega)
  have i4 := itoa_short (n := x.Depth) (by have := h.depth; omega) (by have := h.depth; omega)
  unfold holeWords at hy
  simp only [List.mem_cons, List.not_mem_nil, or_false] at hy
  rcases hy with rfl | rfl | rfl | rfl | rfl | rfl
  · decide
  · omega
  · omega
  · omega
  · omega
  · unfold markS; split <;> decide
theorem flatMap_len {α : Type} (f : α → Str) (k : Nat) : ∀ (l : List α), (∀ x ∈ l, (f x).length ≤ k) → (l.flatMap f).length ≤ k * l.length
  | [], _ => by simp
  | x :: r, h => by
    rw [List.flatMap_cons, List.length_append, List.length_cons, Nat.mul_succ]
    have h1 := h x (List.mem_cons_self ..)
    have h2 := flatMap_len f k r (fun y hy => h y (List.mem_cons_of_mem _ hy))
    omega
theorem take_flat {α : Type} (f : α → Str) {l : List α} {k : Nat} {x : α} (hx : l[k]? = some x) : (l.take (k + 1)).flatMap f = (l.take k).flatMap f ++ f x := by
  rw [List.take_add_one, hx, List.flatMap_append]; simp
theorem bitLine_len {x : Bit} (h : BitW x) : (bitLine x).length ≤ 2000 := by
  have e : (joinS (bitWords x)).length ≤ 201 * 5 := joinS_len (bit_short h)
  unfold bitLine
  rw [List.length_append, List.length_singleton]; omega
theorem holeLine_len {x : Hole} (h : HoleW x) : (holeLine x).length ≤ 2000 := by
  have e : (joinS (holeWords x)).length ≤ 201 * 6 := joinS_len (hole_short h)
  unfold holeLine
  rw [List.length_append, List.length_singleton]; omega
theorem holes_len' {x : Job} (h : JobW x) (k : Nat) : ((x.Holes.take k).flatMap holeLine).length ≤ 4000000 := by
  have := flatMap_len holeLine 2000 (x.Holes.take k) (fun y hy => holeLine_len (h.holes y (List.mem_of_mem_take hy)))
  have h2 : (x.Holes.take k).length ≤ 2000 := by have := h.many; rw [List.length_take]; omega
  omega
theorem jobText_len {x : Job} (h : JobW x) : (jobText x).length ≤ 4010000 := by
  have e : (joinS (jobWords x)).length ≤ 201 * 2 := joinS_len (job_short h)
  have := holes_len' h x.Holes.length
  rw [List.take_length] at this
  unfold jobText
  rw [List.length_append, List.length_append, List.length_singleton]; omega
/-- a line of words, written -/
theorem S_drill_line {w : Str} {ws : List Str} {b : StringsBuilder} (h1 : 1 ≤ ws.length) (h2 : ws.length ≤ 100) (hs : ∀ y ∈ w :: ws, y.length ≤ 200) (hb : b.buf.length ≤ 1000000000000) {Q : StringsBuilder → Prop} (h : Q ⟨true, b.buf ++ (joinS (w :: ws) ++ [10])⟩) : M_drill_line (w :: ws) b Q := by
  unfold M_drill_line
  have hj := joinS_len hs
  have hj2 : 201 * (ws.length + 1) ≤ 201 * 101 := Nat.mul_le_mul_left _ (by omega)
  refine S_strings_Join h1 h2 (fun y hy => by have := hs y hy; omega) ⟨by rw [List.length_singleton]; omega, ?_⟩
  unfold M_bld_WriteString M_bld_copyCheck
  have e : (b.buf ++ (joinS (w :: ws) ++ [10])).length = b.buf.length + ((joinS (w :: ws)).length + 1) := by rw [List.length_append, List.length_append, List.length_singleton]
  have hr : room (b.buf ++ (joinS (w :: ws) ++ [10])).length 1 := by rw [e]; exact ⟨by omega, by omega⟩
  exact ⟨hr, h⟩


/-- what both answer -/
def textOut (t : List Bit) (j : List Job) : Str × Int := if jobsFault t j ≠ 0 then ([], jobsFault t j) else if 500000 < (textD t j).length then ([], 2) else (textD t j, 0)
theorem lens {t : List Bit} {j : List Job} (h : jobsFault t j = 0) : (∀ k, ((t.take k).flatMap bitLine).length ≤ 200000) ∧ (∀ k, ((j.take k).flatMap jobText).length ≤ 401000000) := by
  obtain ⟨h1, h2, _, _⟩ := jobs_ok h
  constructor
  · intro k
    have := flatMap_len bitLine 2000 (t.take k) (fun x hx => bitLine_len (bitsW h1 x (List.mem_of_mem_take hx)))
    have h2 : (t.take k).length ≤ 100 := by have := (tools_ok h1).1; rw [List.length_take]; omega
    omega
  · intro k
    have := flatMap_len jobText 4010000 (j.take k) (fun x hx => jobText_len (jobsW h x (List.mem_of_mem_take hx)))
    have h2 : (j.take k).length ≤ 100 := by rw [List.length_take]; omega
    omega
theorem isI64_of {n : Int} (h : -1000000 ≤ n ∧ n ≤ 1000000) : isI64 n := ⟨by omega, by omega⟩
theorem S_drill_Text {t : List Bit} {j : List Job} (ht : Fits.fits t) {Q : Str → Int → Prop} (h : Q (textOut t j).1 (textOut t j).2) : M_drill_Text t j Q := by
  unfold M_drill_Text
  refine S_drill_CheckJobs ht (cnd_of (fun e => ?_) (fun e => ?_))
  · unfold textOut at h; rw [if_pos (by simpa using e)] at h; exact h
  have e' : jobsFault t j = 0 := by simpa using e
  unfold textOut at h
  rw [if_neg (by simp [e'])] at h
  have hp := (jobs_ok e').1
  obtain ⟨len1, len2⟩ := lens e'
  refine forIn0 (fun k (st : List UInt8 × Bool) => st.1 = (t.take k).flatMap bitLine) rfl (fun k x st hx hI next hn => ?_) (fun st hI => ?_)
  · have hw := bitsW hp x (List.mem_of_getElem? hx)
    have hl1 := len1 k
    unfold M_drill_Text_L1 itoaS
    refine ⟨isI64_of (by have := hw.size; omega), isI64_of (by have := hw.life; omega), isI64_of (by have := hw.stack; omega), ?_⟩
    refine S_drill_line (by simp) (by simp) (bit_short hw) (by show st.1.length ≤ _; rw [hI]; omega) (hn _ ?_)
    show st.1 ++ bitLine x = _
    rw [take_flat bitLine hx, hI]
  · have hI' : st.1 = t.flatMap bitLine := by rw [hI, List.take_length]
    refine forIn0 (fun k (st : List UInt8 × Bool) => st.1 = t.flatMap bitLine ++ (j.take k).flatMap jobText) (by simp [hI']) (fun k x st hx hI next hn => ?_) (fun st hI => ?_)
    · have hw := jobsW e' x (List.mem_of_getElem? hx)
      have hl2 := len2 k
      have hl1 := len1 t.length
      rw [List.take_length] at hl1
      have hst : st.1.length ≤ 401200000 := by rw [hI, List.length_append]; omega
      unfold M_drill_Text_L2
      refine S_drill_line (by simp) (by simp) (job_short hw) (by show st.1.length ≤ _; omega) ?_
      refine forIn0 (fun k (st2 : List UInt8 × Bool) => st2.1 = (st.1 ++ (joinS (jobWords x) ++ [10])) ++ (x.Holes.take k).flatMap holeLine) (by simp [jobWords]) (fun k y st2 hy hI2 next2 hn2 => ?_) (fun st2 hI2 => ?_)
      · have hh := hw.holes y (List.mem_of_getElem? hy)
        have hl3 := holes_len' hw k
        have e : (joinS (jobWords x)).length ≤ 201 * 2 := joinS_len (job_short hw)
        have hst2 : st2.1.length ≤ 500000000 := by rw [hI2, List.length_append, List.length_append, List.length_append, List.length_singleton]; omega
        have go : ∀ s1, s1 = markS y.Plated → M_drill_Text_k4 y st2.1 st2.2 (fun l6 b6 => next2 (l6, b6)) s1 := by
          rintro s1 rfl
          unfold M_drill_Text_k4 itoaS
          refine ⟨isI64_of hh.x, isI64_of hh.y, isI64_of (by have := hh.size; omega), isI64_of (by have := hh.depth; omega), ?_⟩
          refine S_drill_line (by simp) (by simp) (hole_short hh) (by show st2.1.length ≤ _; omega) (hn2 _ ?_)
          show st2.1 ++ holeLine y = _
          rw [take_flat holeLine hy, hI2, List.append_assoc]
        unfold M_drill_Text_L3
        exact cnd_of (fun e => go _ (by unfold markS; rw [e]; rfl)) (fun e => go _ (by unfold markS; rw [e]; rfl))
      · refine hn _ ?_
        show st2.1 = _
        rw [hI2, take_flat jobText hx, hI, List.take_length]
        unfold jobText
        simp only [List.append_assoc]
    · have hI2 : st.1 = textD t j := by rw [hI, List.take_length]; rfl
      unfold M_bld_Len
      refine cnd_of (fun e => ?_) (fun e => ?_)
      · have : 500000 < ((st.1.length : Nat) : Int) := by simpa using e
        rw [hI2] at this
        rw [if_pos (by omega)] at h; exact h
      · have : ¬ 500000 < ((st.1.length : Nat) : Int) := by simpa using e
        rw [hI2] at this
        rw [if_neg (by omega)] at h
        rw [hI2]; exact h
theorem S_ref8_holeText {x : Hole} (hh : HoleW x) {Q : Str → Prop} (h : Q (holeLine x)) : M_ref8_holeText x Q := by
  have hll := holeLine_len hh
  unfold holeLine at hll
  rw [List.length_append, List.length_singleton] at hll
  have go : ∀ s1, s1 = markS x.Plated → M_ref8_holeText_k1 x Q s1 := by
    rintro s1 rfl
    unfold M_ref8_holeText_k1 itoaS
    refine ⟨isI64_of hh.x, isI64_of hh.y, isI64_of (by have := hh.size; omega), isI64_of (by have := hh.depth; omega), ?_⟩
    refine S_strings_Join (by simp) (by simp) (fun y hy => by have := hole_short hh y hy; omega) ?_
    show must ((joinS (holeWords x)).length + 1 ≤ _) (Q (holeLine x))
    exact ⟨by omega, h⟩
  unfold M_ref8_holeText
  exact cnd_of (fun e => go _ (by unfold markS; rw [e]; rfl)) (fun e => go _ (by unfold markS; rw [e]; rfl))
theorem S_ref8_Text {t : List Bit} {j : List Job} (ht : Fits.fits t) {Q : Str → Int → Prop} (h : Q (textOut t j).1 (textOut t j).2) : M_ref8_Text t j Q := by
  unfold M_ref8_Text
  refine S_ref8_CheckJobs ht (cnd_of (fun e => ?_) (fun e => ?_))
  · unfold textOut at h; rw [if_pos (by simpa using e)] at h; exact h
  have e' : jobsFault t j = 0 := by simpa using e
  unfold textOut at h
  rw [if_neg (by simp [e'])] at h
  have hp := (jobs_ok e').1
  obtain ⟨len1, len2⟩ := lens e'
  refine forIn0 (fun k (st : Str) => st = (t.take k).flatMap bitLine) rfl (fun k x st hx hI next hn => ?_) (fun st hI => ?_)
  · have hw := bitsW hp x (List.mem_of_getElem? hx)
    have hl1 := len1 k
    have hll := bitLine_len hw
    unfold bitLine at hll
    rw [List.length_append, List.length_singleton] at hll
    have hst : st.length ≤ 200000 := by rw [hI]; exact hl1
    unfold M_ref8_Text_L1 itoaS
    refine ⟨isI64_of (by have := hw.size; omega), isI64_of (by have := hw.life; omega), isI64_of (by have := hw.stack; omega), ?_⟩
    refine S_strings_Join (by simp) (by simp) (fun y hy => by have := bit_short hw y hy; omega) ?_
    show must ((joinS (bitWords x)).length + 1 ≤ _) (must (st.length + (bitLine x).length ≤ _) (next (st ++ bitLine x)))
    refine ⟨by omega, by unfold bitLine; rw [List.length_append, List.length_singleton]; omega, hn _ ?_⟩
    rw [take_flat bitLine hx, hI]
  · have hI' : st = t.flatMap bitLine := by rw [hI, List.take_length]
    refine forIn0 (fun k (st : Str) => st = t.flatMap bitLine ++ (j.take k).flatMap jobText) (by simp [hI']) (fun k x st hx hI next hn => ?_) (fun st hI => ?_)
    · have hw := jobsW e' x (List.mem_of_getElem? hx)
      have hl2 := len2 k
      have hl1 := len1 t.length
      rw [List.take_length] at hl1
      have hst : st.length ≤ 401200000 := by rw [hI, List.length_append]; omega
      have htl := hw.tool.2
      have ej : ([106, 111, 98, 32] ++ x.Tool) ++ [10] = joinS (jobWords x) ++ [10] := by simp [joinS, jobWords, wJob]
      have e : (joinS (jobWords x)).length ≤ 201 * 2 := joinS_len (job_short hw)
      unfold M_ref8_Text_L2
      rw [ej]
      refine ⟨by simp only [List.length_cons, List.length_nil]; omega, by simp only [List.length_append, List.length_cons, List.length_nil]; omega, by rw [List.length_append, List.length_singleton]; omega, ?_⟩
      refine forIn0 (fun k (st2 : Str) => st2 = (st ++ (joinS (jobWords x) ++ [10])) ++ (x.Holes.take k).flatMap holeLine) (by simp) (fun k y st2 hy hI2 next2 hn2 => ?_) (fun st2 hI2 => ?_)
      · have hh := hw.holes y (List.mem_of_getElem? hy)
        have hl3 := holes_len' hw k
        have hll := holeLine_len hh
        have hst2 : st2.length ≤ 500000000 := by rw [hI2, List.length_append, List.length_append, List.length_append, List.length_singleton]; omega
        unfold M_ref8_Text_L3
        refine S_ref8_holeText hh ⟨by omega, hn2 _ ?_⟩
        rw [take_flat holeLine hy, hI2, List.append_assoc]
      · refine hn _ ?_
        rw [hI2, take_flat jobText hx, hI, List.take_length]
        unfold jobText
        simp only [List.append_assoc]
    · have hI2 : st = textD t j := by rw [hI, List.take_length]; rfl
      refine cnd_of (fun e => ?_) (fun e => ?_)
      · have : 500000 < ((st.length : Nat) : Int) := by simpa using e
        rw [hI2] at this
        rw [if_pos (by omega)] at h; exact h
      · have : ¬ 500000 < ((st.length : Nat) : Int) := by simpa using e
        rw [hI2] at this
        rw [if_neg (by omega)] at h
        rw [hI2]; exact h

end Go.Proofs.YtdnilnmdbgcmoaaGreatDoor

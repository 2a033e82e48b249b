/- Writing bodies and places: what is written, by both; read as it was written; the law. -/
import Derived.Test.YtdnilnmdbgcmoaaGreatDoorMtG
import Derived.Test.YtdnilnmdbgcmoaaGreatDoorMtF
import Derived.Test.YtdnilnmdbgcmoaaGreatDoorTextS
namespace Go.Proofs.YtdnilnmdbgcmoaaGreatDoor
open Go Go.RowKit Go.Proofs Go.Shelf
set_option linter.unusedVariables false

/-! ### what is written -/
def sideS (b : Bool) : Str := if b then wDown else wUp
def bodyWords (x : Body) : List Str := [wBody, x.Typ, Lib.itoa x.W, Lib.itoa x.H, Lib.itoa x.Tall, x.Nozzle]
def placeWords (p : Place) : List Str := [wPlace, p.Part, p.Typ, Lib.itoa p.At.X, Lib.itoa p.At.Y, Lib.itoa p.Quarters, sideS p.Below]
def bodyLine (x : Body) : Str := joinS (bodyWords x) ++ [10]
def placeLine (p : Place) : Str := joinS (placeWords p) ++ [10]
def textM (b : List Body) (l : List Place) : Str := b.flatMap bodyLine ++ l.flatMap placeLine
theorem good_byte {b : UInt8} (h : badByte b = false) : rowByte b = true := by
  have key : ∀ n, n < 256 → badByte (UInt8.ofNat n) = false → rowByte (UInt8.ofNat n) = true := by decide +kernel
  have := key b.toNat (UInt8.toNat_lt b)
  rw [UInt8.ofNat_toNat] at this
  exact this h
theorem word_row {s : Str} (h : isWord s = true) : isRowS s = true ∧ s.length ≤ 40 := by
  unfold isWord at h
  simp only [Bool.and_eq_true, Bool.not_eq_true', decide_eq_true_eq] at h
  refine ⟨?_, h.2⟩
  unfold isRowS
  rw [Bool.and_eq_true]
  constructor
  · have : s ≠ [] := by intro e; rw [e] at h; simp at h
    simpa using this
  · refine List.all_eq_true.2 fun b hb => ?_
    have := (List.any_eq_false.1 h.1.1) b hb
    exact good_byte (by simpa using this)
structure BodyW (x : Body) : Prop where
  typ : isRowS x.Typ = true ∧ x.Typ.length ≤ 40
  noz : isRowS x.Nozzle = true ∧ x.Nozzle.length ≤ 40
  w : 0 ≤ x.W ∧ x.W ≤ 100000
  h : 0 ≤ x.H ∧ x.H ≤ 100000
  tall : 0 ≤ x.Tall ∧ x.Tall ≤ 100000
structure PlaceW (p : Place) : Prop where
  part : isRowS p.Part = true ∧ p.Part.length ≤ 200
  typ : isRowS p.Typ = true ∧ p.Typ.length ≤ 40
  x : -1000000 ≤ p.At.X ∧ p.At.X ≤ 1000000
  y : -1000000 ≤ p.At.Y ∧ p.At.Y ≤ 1000000
  q : 0 ≤ p.Quarters ∧ p.Quarters ≤ 3
theorem bodiesW {b : List Body} (h : BodiesOk b) : ∀ x ∈ b, BodyW x := fun x hx => by
  obtain ⟨h1, h2, h3, h4, h5⟩ := h.each x hx
  unfold within at h2 h3 h4
  simp at h2 h3 h4
  exact ⟨word_row h1, word_row h5, by omega, by omega, by omega⟩
theorem placesW {b : List Body} {l : List Place} (h : PlacesOk b l) : ∀ x ∈ l, PlaceW x := fun x hx => by
  obtain ⟨h1, h2, h3⟩ := h.each x hx
  unfold at0 within at h3
  simp at h3
  unfold isPath at h1
  rw [Bool.and_eq_true] at h1
  refine ⟨⟨path_row fun y hy => (word_row (List.all_eq_true.1 h1.2 y hy)).1, by simpa using h1.1⟩, ?_, by omega, by omega, by omega⟩
  obtain ⟨y, hy⟩ := Option.isSome_iff_exists.1 h2
  have e1 := List.find?_some hy
  have e2 := h.bodies.each y (List.mem_of_find?_eq_some hy)
  have e3 : y.Typ = x.Typ := by simpa using e1
  rw [e3] at e2
  exact word_row e2.1
theorem body_short {x : Body} (h : BodyW x) : ∀ y ∈ bodyWords x, y.length ≤ 200 := by
  intro y hy
  have h1 := h.typ.2; have h2 := h.noz.2
  have i1 := itoa_short (n := x.W) (by have := h.w; omega) (by have := h.w; omega)
  have i2 := itoa_short (n := x.H) (by have := h.h; omega) (by have := h.h; omega)
  have i3 := itoa_short (n := x.Tall) (by have := h.tall; omega) (by have := h.tall; omega)
  unfold bodyWords at hy
  simp only [List.mem_cons, List.not_mem_nil, or_false] at hy
  rcases hy with rfl | rfl | rfl | rfl | rfl | rfl <;> first | omega | decide
theorem place_short {x : Place} (h : PlaceW x) : ∀ y ∈ placeWords x, y.length ≤ 200 := by
  intro y hy
  have h1 := h.part.2; have h2 := h.typ.2
  have i1 := itoa_short (n := x.At.X) (by have := h.x; omega) (by have := h.x; omega)
  have i2 := itoa_short (n := x.At.Y) (by have := h.y; omega) (by have := h.y; omega)
  have i3 := itoa_short (n := x.Quarters) (by have := h.q; omega) (by have := h.q; omega)
  unfold placeWords at hy
  simp only [List.mem_cons, List.not_mem_nil, or_false] at hy
  rcases hy with rfl | rfl | rfl | rfl | rfl | rfl | rfl
  · decide
  · omega
  · omega
  · omega
  · omega
  · omega
  · unfold sideS; split <;> decide
theorem bodyLine_len {x : Body} (h : BodyW x) : (bodyLine x).length ≤ 2000 := by
  have := joinS_len (body_short h)
  unfold bodyLine
  rw [List.length_append, List.length_singleton]
  have e : (joinS (bodyWords x)).length ≤ 201 * 6 := this
  omega
theorem placeLine_len {x : Place} (h : PlaceW x) : (placeLine x).length ≤ 2000 := by
  have := joinS_len (place_short h)
  unfold placeLine
  rw [List.length_append, List.length_singleton]
  have e : (joinS (placeWords x)).length ≤ 201 * 7 := this
  omega
theorem flatMap_len {α : Type} (f : α → Str) (k : Nat) : ∀ (l : List α), (∀ x ∈ l, (f x).length ≤ k) → (l.flatMap f).length ≤ k * l.length
  | [], _ => by simp
  | x :: r, h => by
    rw [List.flatMap_cons, List.length_append, List.length_cons, Nat.mul_succ]
    have h1 := h x (List.mem_cons_self ..)
    have h2 := flatMap_len f k r (fun y hy => h y (List.mem_cons_of_mem _ hy))
    omega
theorem take_flat {α : Type} (f : α → Str) {l : List α} {k : Nat} {x : α} (hx : l[k]? = some x) : (l.take (k + 1)).flatMap f = (l.take k).flatMap f ++ f x := by
  rw [List.take_add_one, hx, List.flatMap_append]; simp
/-- a line of words, written -/
theorem S_mount_line {w : Str} {ws : List Str} {b : StringsBuilder} (h1 : 1 ≤ ws.length) (h2 : ws.length ≤ 100) (hs : ∀ y ∈ w :: ws, y.length ≤ 200) (hb : b.buf.length ≤ 100000000) {Q : StringsBuilder → Prop} (h : Q ⟨true, b.buf ++ (joinS (w :: ws) ++ [10])⟩) : M_mount_line (w :: ws) b Q := by
  unfold M_mount_line
  have hj := joinS_len hs
  have hj2 : 201 * (ws.length + 1) ≤ 201 * 101 := Nat.mul_le_mul_left _ (by omega)
  refine S_strings_Join h1 h2 (fun y hy => by have := hs y hy; omega) ⟨by rw [List.length_singleton]; omega, ?_⟩
  unfold M_bld_WriteString M_bld_copyCheck
  have e : (b.buf ++ (joinS (w :: ws) ++ [10])).length = b.buf.length + ((joinS (w :: ws)).length + 1) := by rw [List.length_append, List.length_append, List.length_singleton]
  have hr : room (b.buf ++ (joinS (w :: ws) ++ [10])).length 1 := by rw [e]; exact ⟨by omega, by omega⟩
  exact ⟨hr, h⟩

/-- what both answer -/
def textOut (b : List Body) (l : List Place) : Str × Int := if placesFault b l ≠ 0 then ([], placesFault b l) else if 300000 < (textM b l).length then ([], 2) else (textM b l, 0)
theorem lens {b : List Body} {l : List Place} (hp : PlacesOk b l) : (∀ k, ((b.take k).flatMap bodyLine).length ≤ 400000) ∧ (∀ k, ((l.take k).flatMap placeLine).length ≤ 2000000) := by
  constructor
  · intro k
    have := flatMap_len bodyLine 2000 (b.take k) (fun x hx => bodyLine_len (bodiesW hp.bodies x (List.mem_of_mem_take hx)))
    have h2 : (b.take k).length ≤ 200 := by have := hp.bodies.len; rw [List.length_take]; omega
    omega
  · intro k
    have := flatMap_len placeLine 2000 (l.take k) (fun x hx => placeLine_len (placesW hp x (List.mem_of_mem_take hx)))
    have h2 : (l.take k).length ≤ 1000 := by have := hp.len; rw [List.length_take]; omega
    omega
theorem isI64_of {n : Int} (h : -1000000 ≤ n ∧ n ≤ 1000000) : isI64 n := ⟨by omega, by omega⟩
theorem S_mount_Text {b : List Body} {l : List Place} (hb : Fits.fits b) (hl : Fits.fits l) {Q : Str → Int → Prop} (h : Q (textOut b l).1 (textOut b l).2) : M_mount_Text b l Q := by
  unfold M_mount_Text
  refine S_mount_CheckPlaces hb hl (cnd_of (fun e => ?_) (fun e => ?_))
  · unfold textOut at h; rw [if_pos (by simpa using e)] at h; exact h
  have e' : placesFault b l = 0 := by simpa using e
  unfold textOut at h
  rw [if_neg (by simp [e'])] at h
  have hp := places_ok e'
  obtain ⟨len1, len2⟩ := lens hp
  refine forIn0 (fun k (st : List UInt8 × Bool) => st.1 = (b.take k).flatMap bodyLine) rfl (fun k x st hx hI next hn => ?_) (fun st hI => ?_)
  · have hw := bodiesW hp.bodies x (List.mem_of_getElem? hx)
    have hl1 := len1 k
    unfold M_mount_Text_L1 itoaS
    refine ⟨isI64_of (by have := hw.w; omega), isI64_of (by have := hw.h; omega), isI64_of (by have := hw.tall; omega), ?_⟩
    refine S_mount_line (by simp) (by simp) (body_short hw) (by show st.1.length ≤ _; rw [hI]; omega) (hn _ ?_)
    show st.1 ++ bodyLine x = _
    rw [take_flat bodyLine hx, hI]
  · have hI' : st.1 = b.flatMap bodyLine := by rw [hI, List.take_length]
    refine forIn0 (fun k (st : List UInt8 × Bool) => st.1 = b.flatMap bodyLine ++ (l.take k).flatMap placeLine) (by simp [hI']) (fun k x st hx hI next hn => ?_) (fun st hI => ?_)
    · have hw := placesW hp x (List.mem_of_getElem? hx)
      have hl2 := len2 k
      have hl1 := len1 b.length
      rw [List.take_length] at hl1
      unfold M_mount_Text_L2 itoaS
      refine ⟨isI64_of hw.x, isI64_of hw.y, isI64_of (by have := hw.q; omega), ?_⟩
      have go : M_mount_line [wPlace, x.Part, x.Typ, Lib.itoa x.At.X, Lib.itoa x.At.Y, Lib.itoa x.Quarters, sideS x.Below] ⟨st.2, st.1⟩ fun z1 => next (z1.buf, z1.addr) := by
        refine S_mount_line (by simp) (by simp) (place_short hw) (by show st.1.length ≤ _; rw [hI, List.length_append]; omega) (hn _ ?_)
        show st.1 ++ placeLine x = _
        rw [take_flat placeLine hx, hI, List.append_assoc]
      unfold M_mount_side
      unfold sideS at go
      refine cnd_of (fun e => ?_) (fun e => ?_)
      · rw [e] at go
        exact idx_nat (i := 1) (x := wDown) rfl go
      · rw [e] at go
        exact idx_nat (i := 0) (x := wUp) rfl go
    · have hI2 : st.1 = textM b l := by rw [hI, List.take_length]; rfl
      unfold M_bld_Len
      refine cnd_of (fun e => ?_) (fun e => ?_)
      · have : 300000 < ((st.1.length : Nat) : Int) := by simpa using e
        rw [hI2] at this
        rw [if_pos (by omega)] at h; exact h
      · have : ¬ 300000 < ((st.1.length : Nat) : Int) := by simpa using e
        rw [hI2] at this
        rw [if_neg (by omega)] at h
        rw [hI2]; exact h
theorem S_ref10_Text {b : List Body} {l : List Place} (hb : Fits.fits b) (hs : ∀ p ∈ l, p.Part.length < 4294967281) {Q : Str → Int → Prop} (h : Q (textOut b l).1 (textOut b l).2) : M_ref10_Text b l Q := by
  unfold M_ref10_Text
  refine S_ref10_CheckPlaces hb hs (cnd_of (fun e => ?_) (fun e => ?_))
  · unfold textOut at h; rw [if_pos (by simpa using e)] at h; exact h
  have e' : placesFault b l = 0 := by simpa using e
  unfold textOut at h
  rw [if_neg (by simp [e'])] at h
  have hp := places_ok e'
  obtain ⟨len1, len2⟩ := lens hp
  refine forIn0 (fun k (st : Str) => st = (b.take k).flatMap bodyLine) rfl (fun k x st hx hI next hn => ?_) (fun st hI => ?_)
  · have hw := bodiesW hp.bodies x (List.mem_of_getElem? hx)
    have hl1 := len1 k
    have hll := bodyLine_len hw
    unfold bodyLine at hll
    rw [List.length_append, List.length_singleton] at hll
    have hst : st.length ≤ 400000 := by rw [hI]; exact hl1
    unfold M_ref10_Text_L1 itoaS
    refine ⟨isI64_of (by have := hw.w; omega), isI64_of (by have := hw.h; omega), isI64_of (by have := hw.tall; omega), ?_⟩
    refine S_strings_Join (by simp) (by simp) (fun y hy => by have := body_short hw y hy; omega) ?_
    show must ((joinS (bodyWords x)).length + 1 ≤ _) (must (st.length + (bodyLine x).length ≤ _) (next (st ++ bodyLine x)))
    refine ⟨by omega, by unfold bodyLine; rw [List.length_append, List.length_singleton]; omega, hn _ ?_⟩
    rw [take_flat bodyLine hx, hI]
  · have hI' : st = b.flatMap bodyLine := by rw [hI, List.take_length]
    refine forIn0 (fun k (st : Str) => st = b.flatMap bodyLine ++ (l.take k).flatMap placeLine) (by simp [hI']) (fun k x st hx hI next hn => ?_) (fun st hI => ?_)
    · have hw := placesW hp x (List.mem_of_getElem? hx)
      have hl2 := len2 k
      have hl1 := len1 b.length
      rw [List.take_length] at hl1
      have hll := placeLine_len hw
      unfold placeLine at hll
      rw [List.length_append, List.length_singleton] at hll
      have hst : st.length ≤ 2400000 := by rw [hI, List.length_append]; omega
      unfold M_ref10_Text_L2 itoaS
      refine ⟨isI64_of hw.x, isI64_of hw.y, isI64_of (by have := hw.q; omega), ?_⟩
      have go : M_strings_Join [wPlace, x.Part, x.Typ, Lib.itoa x.At.X, Lib.itoa x.At.Y, Lib.itoa x.Quarters, sideS x.Below] [32] fun y3 => must (y3.length + ([10] : Str).length ≤ 9223372036854775807) (must (st.length + (y3 ++ [10]).length ≤ 9223372036854775807) (next (st ++ (y3 ++ [10])))) := by
        refine S_strings_Join (by simp) (by simp) (fun y hy => by have := place_short hw y hy; omega) ?_
        show must ((joinS (placeWords x)).length + 1 ≤ _) (must (st.length + (placeLine x).length ≤ _) (next (st ++ placeLine x)))
        refine ⟨by omega, by unfold placeLine; rw [List.length_append, List.length_singleton]; omega, hn _ ?_⟩
        rw [take_flat placeLine hx, hI, List.append_assoc]
      unfold M_ref10_sideOf
      unfold sideS at go
      refine cnd_of (fun e => ?_) (fun e => ?_)
      · rw [e] at go; exact go
      · rw [e] at go; exact go
    · have hI2 : st = textM b l := by rw [hI, List.take_length]; rfl
      refine cnd_of (fun e => ?_) (fun e => ?_)
      · have : 300000 < ((st.length : Nat) : Int) := by simpa using e
        rw [hI2] at this
        rw [if_pos (by omega)] at h; exact h
      · have : ¬ 300000 < ((st.length : Nat) : Int) := by simpa using e
        rw [hI2] at this
        rw [if_neg (by omega)] at h
        rw [hI2]; exact h

end Go.Proofs.YtdnilnmdbgcmoaaGreatDoor

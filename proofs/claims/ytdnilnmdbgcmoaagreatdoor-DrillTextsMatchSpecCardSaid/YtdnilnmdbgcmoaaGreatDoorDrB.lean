/- Chapter 8: checks of holes and tools, sizes: plain. -/
import Derived.Test.YtdnilnmdbgcmoaaGreatDoorDrA
import Derived.Test.YtdnilnmdbgcmoaaGreatDoorPlain
namespace Go.Proofs.YtdnilnmdbgcmoaaGreatDoor
open Go Go.RowKit
set_option linter.unusedVariables false

theorem S_contains_notPoint {l : List Point} {Q : Bool → Prop} (h : Q (l.any notPoint)) : M_contains_notPoint l Q := by
  unfold M_contains_notPoint M_index_notPoint
  refine forIn0 (fun k _ => ∀ i x, i < k → l[i]? = some x → notPoint x = false) (fun i x h => by omega) (fun k x s hx hI next hn => ?_) (fun s hI => ?_)
  · refine cnd_of (fun e => ?_) (fun e => hn _ (fun i y hi hy => ?_))
    · have : l.any notPoint = true := List.any_eq_true.2 ⟨x, List.mem_of_getElem? hx, e⟩
      rw [this] at h
      simpa using h
    · rcases Nat.lt_or_ge i k with hlt | hge
      · exact hI i y hlt hy
      · have : i = k := by omega
        subst this; rw [hx] at hy; injection hy with hy; subst hy; exact e
  · have : l.any notPoint = false := by
      rw [List.any_eq_false]
      intro x hx
      obtain ⟨i, hi⟩ := List.getElem?_of_mem hx
      simpa using hI i x (lt_of_get hi) hi
    rw [this] at h
    simpa using h

/-- the error of points -/
def pointsFault (l : List Point) (fr : Point) (most : Int) : Int := if (l.length : Int) > most then 2 else if isPoint fr = false ∨ l.any notPoint = true then 1 else 0
theorem S_drill_checkPoints {l : List Point} {fr : Point} {most : Int} {Q : Int → Prop} (h : Q (pointsFault l fr most)) : M_drill_checkPoints l fr most Q := by
  unfold M_drill_checkPoints pointsFault at *
  refine cnd_of (fun e => ?_) (fun e => cnd_of (fun e2 => ?_) (fun e2 => S_contains_notPoint ?_))
  · simp at e; simpa [e] using h
  · simp at e e2; unfold M_drill_checkPoints_k1; simp [show ¬ most < l.length by omega, e2] at h; simpa using h
  · simp at e e2; unfold M_drill_checkPoints_k1
    generalize l.any notPoint = b at h ⊢
    cases b <;> simp [show ¬ most < l.length by omega, e2] at h ⊢ <;> exact h
/-! ### how far it goes -/
def wayTo (l : List Point) (fr : Point) : Int := (l.zipIdx.foldl (fun (s : Point × Int) p => (p.1, w64 (s.2 + far s.1 p.1))) (fr, 0)).2
theorem S_drill_way {l : List Point} {fr : Point} {Q : Int → Prop} (h : Q (wayTo l fr)) : M_drill_way l fr Q := by
  unfold M_drill_way
  exact forIn_run (fun k x s => (x, w64 (s.2 + far s.1 x))) (fun k x s next h => h) l 0 (fr, 0) h
theorem S_drill_Way {l : List Point} {fr : Point} {Q : Int → Int → Prop} (h : if pointsFault l fr 2000 = 0 then Q (wayTo l fr) 0 else Q 0 (pointsFault l fr 2000)) : M_drill_Way l fr Q := by
  unfold M_drill_Way
  refine S_drill_checkPoints (cnd_of (fun e => ?_) (fun e => S_drill_way ?_))
  · simp at e; simpa [e] using h
  · simp at e; simpa [e] using h
theorem S_awake {Q : Bool → Prop} (h : Q true) : M_awake Q := by
  unfold M_awake
  refine S_drill_Way ?_
  have h1 : pointsFault [⟨5, 0⟩, ⟨1, 0⟩, ⟨2, 3⟩] ⟨0, 0⟩ 2000 = 0 := by decide
  have h2 : wayTo [⟨5, 0⟩, ⟨1, 0⟩, ⟨2, 3⟩] ⟨0, 0⟩ = 12 := by decide
  rw [if_pos h1, h2]
  simpa using h

def holeBad (h : Hole) : Bool := !(isPoint h.At) || !(within h.Size 1 10000) || !(within h.Depth 1 100000)
def holesFault (l : List Hole) : Int := if (l.length : Int) > 2000 then 2 else if l.any holeBad = true then 1 else 0
theorem S_drill_CheckHoles {l : List Hole} {Q : Int → Prop} (h : Q (holesFault l)) : M_drill_CheckHoles l Q := by
  unfold M_drill_CheckHoles
  unfold holesFault at h
  refine cnd_of (fun e => ?_) (fun e => ?_)
  · rw [if_pos (by simpa using e)] at h; exact h
  · rw [if_neg (by simpa using e)] at h
    refine forIn_any holeBad (fun k x next h => ?_) l 0 (A := Q 1) ?_
    · unfold M_drill_CheckHoles_L1 M_drill_CheckHoles_k2
      unfold holeBad at h
      cases h1 : isPoint x.At <;> cases h2 : within x.Size 1 10000 <;> simp [h1, h2] at h ⊢ <;> first | exact h | (simp [cnd_iff]; exact h)
    · split <;> rename_i e2
      · rw [if_pos e2] at h; exact h
      · rw [if_neg e2] at h; exact h
theorem S_ref8_CheckHoles {l : List Hole} {Q : Int → Prop} (h : Q (holesFault l)) : M_ref8_CheckHoles l Q := S_drill_CheckHoles h
theorem holes_len {l : List Hole} (h : holesFault l = 0) : l.length ≤ 2000 := by
  unfold holesFault at h; split at h <;> omega

/-! ### words -/
def badByte (x : UInt8) : Bool := (decide ((x.toNat : Int) < 65) || decide ((x.toNat : Int) > 90)) && (decide ((x.toNat : Int) < 97) || decide ((x.toNat : Int) > 122)) && (decide ((x.toNat : Int) < 48) || decide ((x.toNat : Int) > 57)) && decide (byteAt [95, 43, 45, 35] (x.toNat : Int) < 0)
def isWord (s : Str) : Bool := !(s.any badByte) && decide (1 ≤ s.length) && decide (s.length ≤ 40)
theorem S_netlist_IsWord {s : Str} (hs : Fits.fits s) {Q : Bool → Prop} (h : Q (isWord s)) : M_netlist_IsWord s Q := by
  unfold M_netlist_IsWord
  refine lp_scan hs badByte (A := Q false) (done := Q (decide (1 ≤ s.length) && decide (s.length ≤ 40))) (fun X n hX => ?_) ?_
  · unfold M_netlist_IsWord_L1 M_netlist_IsWord_k2
    refine cnd_mono hX (fun hi => ?_) (fun hq => ?_)
    · obtain ⟨h0, x, hx, hc⟩ := hi
      refine ⟨h0, x, hx, ?_⟩
      unfold badByte at hc
      cases h1 : decide ((x.toNat : Int) < 65) <;> cases h2 : decide ((x.toNat : Int) > 90) <;> cases h3 : decide ((x.toNat : Int) < 97) <;> cases h4 : decide ((x.toNat : Int) > 122) <;> cases h5 : decide ((x.toNat : Int) < 48) <;> cases h6 : decide ((x.toNat : Int) > 57) <;>
        simp only [h1, h2, h3, h4, h5, h6, Bool.or_true, Bool.true_or, Bool.or_false, Bool.false_and, Bool.true_and, Bool.and_true, Bool.and_false, cnd_true, cnd_false] at hc ⊢ <;> exact hc
    · refine cnd_of (fun e => ?_) (fun e => ?_)
      · have e1 : 1 ≤ s.length := by simp at e; omega
        have : decide ((s.length : Int) ≤ 40) = decide (s.length ≤ 40) := by congr 1; exact propext ⟨fun h => by omega, fun h => by omega⟩
        rw [this]; simpa [e1] using hq
      · have e1 : ¬ 1 ≤ s.length := by simp at e; omega
        simpa [e1] using hq
  · unfold isWord at h
    split
    · rename_i e; simpa [e] using h
    · rename_i e; simpa [e] using h
theorem S_ref8_isWord {s : Str} (hs : Fits.fits s) {Q : Bool → Prop} (h : Q (isWord s)) : M_ref8_isWord s Q := by
  unfold M_ref8_isWord
  refine lp_scan hs badByte (A := Q false) (done := Q (decide (1 ≤ s.length) && decide (s.length ≤ 40))) (fun X n hX => ?_) ?_
  · unfold M_ref8_isWord_L1 M_ref8_isWord_k2
    refine cnd_mono hX (fun hi => ?_) (fun hq => ?_)
    · obtain ⟨h0, x, hx, hc⟩ := hi
      refine ⟨h0, x, hx, ?_⟩
      unfold badByte at hc
      cases h1 : decide ((x.toNat : Int) < 65) <;> cases h2 : decide ((x.toNat : Int) > 90) <;> cases h3 : decide ((x.toNat : Int) < 97) <;> cases h4 : decide ((x.toNat : Int) > 122) <;> cases h5 : decide ((x.toNat : Int) < 48) <;> cases h6 : decide ((x.toNat : Int) > 57) <;>
        simp only [h1, h2, h3, h4, h5, h6, Bool.or_true, Bool.true_or, Bool.or_false, Bool.false_and, Bool.true_and, Bool.and_true, Bool.and_false, cnd_true, cnd_false] at hc ⊢ <;> exact hc
    · have : within (s.length : Int) 1 40 = (decide (1 ≤ s.length) && decide (s.length ≤ 40)) := by
        unfold within; congr 1 <;> (congr 1; exact propext ⟨fun h => by omega, fun h => by omega⟩)
      rw [this]; exact hq
  · unfold isWord at h
    split
    · rename_i e; simpa [e] using h
    · rename_i e; simpa [e] using h

/-! ### tools -/
def toolBad (t : List Bit) (k : Nat) (x : Bit) : Int :=
  if isWord x.Name = false then 5 else if within x.Size 1 10000 = false ∨ within x.Life 1 2000 = false ∨ within x.Stack 0 1000 = false then 1
  else if 0 < k ∧ (strLt x.Name (t.getD (k - 1) default).Name || x.Name == (t.getD (k - 1) default).Name) = true then 8 else 0
def toolsFault (t : List Bit) : Int := if (t.length : Int) > 100 then 2 else firstBad (toolBad t) t 0
theorem tools_step {t : List Bit} {Q : Int → Prop} {i : Nat} {x : Bit} {next : Prop} (hl : t.length ≤ 100) (hx : t[i]? = some x)
    (h : (toolBad t i x ≠ 0 → Q (toolBad t i x)) ∧ (toolBad t i x = 0 → next)) :
    cnd (!(isWord x.Name)) (Q 5) (cnd (!(within x.Size 1 10000)) (M_drill_CheckTools_k2 t Q i x next true) (cnd (!(within x.Life 1 2000)) (M_drill_CheckTools_k2 t Q i x next true) (M_drill_CheckTools_k2 t Q i x next (!(within x.Stack 0 1000))))) := by
  unfold M_drill_CheckTools_k2 M_drill_CheckTools_k3
  unfold toolBad at h
  have hi := lt_of_get hx
  cases hw : isWord x.Name
  · simp only [hw, if_true] at h; simpa using h.1 (by decide)
  · cases h1 : within x.Size 1 10000
    · simp only [hw, h1, true_or, if_true, Bool.true_eq_false, if_false] at h; simpa using h.1 (by decide)
    · cases h2 : within x.Life 1 2000
      · simp only [hw, h2, true_or, or_true, if_true, Bool.true_eq_false, if_false] at h; simpa using h.1 (by decide)
      · cases h3 : within x.Stack 0 1000
        · simp only [hw, h3, or_true, if_true, Bool.true_eq_false, if_false] at h; simpa using h.1 (by decide)
        · simp only [hw, h1, h2, h3, or_self, Bool.true_eq_false, if_false] at h
          simp only [Bool.not_true, cnd_false]
          refine cnd_of (fun e => ?_) (fun e => ?_)
          · have hk : 0 < i := by simpa using e
            have hw' : w64 ((i : Int) - 1) = ((i - 1 : Nat) : Int) := by rw [w64_id] <;> omega
            rw [hw']
            refine idx_nat (x := t.getD (i - 1) default) (by rw [List.getD_eq_getElem?_getD, List.getElem?_eq_getElem (by omega)]; rfl) ?_
            generalize (strLt x.Name (t.getD (i - 1) default).Name || x.Name == (t.getD (i - 1) default).Name) = b at h ⊢
            cases b
            · simp only [Bool.false_eq_true, and_false, if_false, cnd_false] at h ⊢; exact h.2 trivial
            · simp only [hk, and_true, if_true, cnd_true] at h ⊢; exact h.1 (by decide)
          · have hk : ¬ 0 < i := by simpa using e
            simp only [hk, false_and, if_false, cnd_false] at h ⊢
            exact h.2 trivial
theorem S_drill_CheckTools {t : List Bit} (ht : Fits.fits t) {Q : Int → Prop} (h : Q (toolsFault t)) : M_drill_CheckTools t Q := by
  unfold M_drill_CheckTools
  unfold toolsFault at h
  refine cnd_of (fun e => ?_) (fun e => ?_)
  · rw [if_pos (by simpa using e)] at h; exact h
  · rw [if_neg (by simpa using e)] at h
    refine forIn_firstS (toolBad t) (fun _ => ()) rfl (A := Q) (fun i x next hx hf hA => ?_) (fun i x next hx hf _ hn => ?_) (fun _ => h) (fun h0 => by rw [h0] at h; exact h)
    · unfold M_drill_CheckTools_L1
      exact S_netlist_IsWord (ht x (List.mem_of_getElem? hx)).1 (tools_step (by simp at e; omega) hx ⟨fun _ => hA, fun e => absurd e hf⟩)
    · unfold M_drill_CheckTools_L1
      exact S_netlist_IsWord (ht x (List.mem_of_getElem? hx)).1 (tools_step (by simp at e; omega) hx ⟨fun e => absurd hf e, fun _ => hn⟩)
theorem S_ref8_CheckTools {t : List Bit} (ht : Fits.fits t) {Q : Int → Prop} (h : Q (toolsFault t)) : M_ref8_CheckTools t Q := by
  unfold M_ref8_CheckTools
  unfold toolsFault at h
  refine cnd_of (fun e => ?_) (fun e => ?_)
  · rw [if_pos (by simpa using e)] at h; exact h
  · rw [if_neg (by simpa using e)] at h
    refine forIn_firstS (toolBad t) (fun _ => ()) rfl (A := Q) (fun i x next hx hf hA => ?_) (fun i x next hx hf _ hn => ?_) (fun _ => h) (fun h0 => by rw [h0] at h; exact h)
    · unfold M_ref8_CheckTools_L1
      exact S_ref8_isWord (ht x (List.mem_of_getElem? hx)).1 (tools_step (by simp at e; omega) hx ⟨fun _ => hA, fun e => absurd e hf⟩)
    · unfold M_ref8_CheckTools_L1
      exact S_ref8_isWord (ht x (List.mem_of_getElem? hx)).1 (tools_step (by simp at e; omega) hx ⟨fun e => absurd hf e, fun _ => hn⟩)
theorem strLt_irrefl : ∀ s : Str, strLt s s = false := by
  intro s
  rcases cmpStr_spec s s with ⟨_, _⟩ | ⟨_, _, h⟩ | ⟨_, _, _, h⟩
  · induction s with
    | nil => rfl
    | cons x r ih =>
      have h5 : ¬ x < x := by rw [UInt8.lt_iff_toNat_lt]; omega
      unfold strLt at *
      simp [Op.bytesLess, h5]
      rcases cmpStr_spec r r with ⟨a, b⟩ | ⟨_, _, h⟩ | ⟨_, _, _, h⟩
      · exact ih a b
      · exact absurd rfl h
      · exact absurd rfl h
  · exact absurd rfl h
  · exact absurd rfl h
theorem strLt_trans : ∀ s u v : Str, strLt s u = true → strLt u v = true → strLt s v = true := by
  unfold strLt
  intro s
  induction s with
  | nil => intro u v h1 h2; cases v with
    | nil => cases u <;> simp [Op.bytesLess] at h2
    | cons y v => rfl
  | cons x s ih =>
    intro u v h1 h2
    cases u with
    | nil => simp [Op.bytesLess] at h1
    | cons y u =>
      cases v with
      | nil => simp [Op.bytesLess] at h2
      | cons z v =>
        simp only [Op.bytesLess, Bool.or_eq_true, decide_eq_true_eq, Bool.and_eq_true, beq_iff_eq] at h1 h2 ⊢
        rw [UInt8.lt_iff_toNat_lt] at *
        rcases h1 with h1 | ⟨rfl, h1⟩ <;> rcases h2 with h2 | ⟨rfl, h2⟩
        · left; omega
        · left; exact h1
        · left; rw [← UInt8.lt_iff_toNat_lt]; exact h2
        · right; exact ⟨rfl, ih _ _ h1 h2⟩
theorem strLt_total (s u : Str) : s = u ∨ strLt s u = true ∨ strLt u s = true := by
  rcases cmpStr_spec s u with ⟨_, h⟩ | ⟨_, h, _⟩ | ⟨_, h, _, _⟩
  · exact .inl h
  · exact .inr (.inl h)
  · exact .inr (.inr h)
/-- tools by rising names -/
def Rising (t : List Bit) : Prop := ∀ i x y, t[i]? = some x → t[i + 1]? = some y → strLt x.Name y.Name = true
theorem tools_ok {t : List Bit} (h : toolsFault t = 0) : t.length ≤ 100 ∧ Rising t ∧ ∀ x ∈ t, isWord x.Name = true ∧ within x.Size 1 10000 = true ∧ within x.Life 1 2000 = true ∧ within x.Stack 0 1000 = true := by
  unfold toolsFault at h
  split at h
  · omega
  · refine ⟨by omega, fun i x y hx hy => ?_, fun x hx => ?_⟩
    · have := firstBad_zero h (i + 1) y hy
      rw [Nat.zero_add] at this
      unfold toolBad at this
      split at this; · omega
      split at this; · omega
      split at this; · omega
      rename_i hn
      have e : t.getD (i + 1 - 1) default = x := getD_of hx
      rw [e] at hn
      have hn' : (strLt y.Name x.Name || y.Name == x.Name) = false := by
        cases hb : (strLt y.Name x.Name || y.Name == x.Name) with
        | false => rfl
        | true => exact absurd ⟨by omega, hb⟩ hn
      simp only [Bool.or_eq_false_iff, beq_eq_false_iff_ne] at hn'
      rcases strLt_total x.Name y.Name with h1 | h1 | h1
      · exact absurd h1.symm hn'.2
      · exact h1
      · rw [hn'.1] at h1; cases h1
    · obtain ⟨i, hi⟩ := List.getElem?_of_mem hx
      have := firstBad_zero h i x hi
      rw [Nat.zero_add] at this
      unfold toolBad at this
      split at this; · omega
      rename_i h1
      split at this; · omega
      rename_i h2
      simp only [not_or, Bool.not_eq_false] at h1 h2
      exact ⟨h1, h2.1, h2.2.1, h2.2.2⟩
theorem rising_lt {t : List Bit} (h : Rising t) : ∀ (d i : Nat) x y, t[i]? = some x → t[i + d + 1]? = some y → strLt x.Name y.Name = true
  | 0, i, x, y, hx, hy => h i x y hx hy
  | d + 1, i, x, y, hx, hy => by
    have hlt := lt_of_get hy
    have hz : t[i + d + 1]? = some t[i + d + 1] := List.getElem?_eq_getElem (by omega)
    exact strLt_trans _ _ _ (rising_lt h d i x _ hx hz) (h _ _ _ hz hy)
theorem rising_mono {t : List Bit} (h : Rising t) {i k : Nat} {x y : Bit} (hx : t[i]? = some x) (hy : t[k]? = some y) (hik : i < k) : strLt x.Name y.Name = true := by
  obtain ⟨d, rfl⟩ : ∃ d, k = i + d + 1 := ⟨k - i - 1, by omega⟩
  exact rising_lt h d i x y hx hy
theorem rising_inj {t : List Bit} (h : Rising t) {i k : Nat} {x y : Bit} (hx : t[i]? = some x) (hy : t[k]? = some y) (he : x.Name = y.Name) : i = k := by
  rcases Nat.lt_trichotomy i k with h1 | h1 | h1
  · have := rising_mono h hx hy h1; rw [he, strLt_irrefl] at this; cases this
  · exact h1
  · have := rising_mono h hy hx h1; rw [he, strLt_irrefl] at this; cases this
/-- the tool of a name -/
def findTool (t : List Bit) (name : Str) : Option Bit := t.find? (fun b => b.Name == name)
theorem findTool_some {t : List Bit} (h : Rising t) {name : Str} {i : Nat} {x : Bit} (hx : t[i]? = some x) (hn : x.Name = name) : findTool t name = some x := by
  unfold findTool
  cases hf : t.find? (fun b => b.Name == name) with
  | none => rw [List.find?_eq_none] at hf; have := hf x (List.mem_of_getElem? hx); simp [hn] at this
  | some y =>
    have hy := List.find?_some hf
    have hm := List.mem_of_find?_eq_some hf
    obtain ⟨k, hk⟩ := List.getElem?_of_mem hm
    have : i = k := rising_inj h hx hk (by rw [hn]; simp at hy; exact hy.symm)
    subst this; rw [hx] at hk; exact hk.symm ▸ rfl
theorem mid_eq {lo hi : Nat} (h : lo + hi ≤ 1000000) : cvt .i64 (shrI .u64 (cvt .u64 (w64 ((lo : Int) + (hi : Int)))) 1) = (((lo + hi) / 2 : Nat) : Int) := by
  have h1 : w64 ((lo : Int) + (hi : Int)) = ((lo + hi : Nat) : Int) := by rw [w64_id] <;> omega
  rw [h1]
  unfold cvt shrI
  have h2 : IntKind.u64.wrap ((lo + hi : Nat) : Int) = ((lo + hi : Nat) : Int) := by
    show ((lo + hi : Nat) : Int) % 18446744073709551616 = _
    omega
  rw [h2]
  have h3 : ((lo + hi : Nat) : Int).fdiv (2 ^ (min (Int.toNat 1) IntKind.u64.bits)) = (((lo + hi) / 2 : Nat) : Int) := by
    show ((lo + hi : Nat) : Int).fdiv 2 = _
    rw [Int.fdiv_eq_ediv_of_nonneg _ (by decide)]; omega
  rw [h3]
  exact w64_id (by omega) (by omega)
theorem S_drill_toolAt {t : List Bit} {name : Str} (ht : Rising t) (hl : t.length ≤ 100) {Q : Bit → Bool → Prop} (h : match findTool t name with | some b => Q b true | none => Q ⟨[], 0, 0, 0⟩ false) : M_drill_toolAt t name Q := by
  unfold M_drill_toolAt M_search_bit
  refine lp_intro (fun s => ∃ lo hi : Nat, s = ((lo : Int), (hi : Int)) ∧ lo ≤ hi ∧ hi ≤ t.length ∧ (∀ i x, i < lo → t[i]? = some x → strLt x.Name name = true) ∧ (∀ i x, hi ≤ i → t[i]? = some x → strLt x.Name name = false)) (fun s => (s.2 - s.1).toNat) ⟨0, t.length, rfl, by omega, by omega, fun i x hi => by omega, fun i x hi hx => by have := lt_of_get hx; omega⟩ ?_
  rintro X _ ⟨lo, hi, rfl, h1, h2, h3, h4⟩ hX
  unfold M_search_bit_L1 M_toolAt1
  rw [mid_eq (by omega)]
  refine cnd_of (fun e => ?_) (fun e => ?_)
  · have hlt : lo < hi := by simp at e; omega
    have hm : (lo + hi) / 2 < t.length := by omega
    refine idx_nat (List.getElem?_eq_getElem hm) (cnd_of (fun e2 => ?_) (fun e2 => ?_))
    · have hw : w64 ((((lo + hi) / 2 : Nat) : Int) + 1) = (((lo + hi) / 2 + 1 : Nat) : Int) := by rw [w64_id] <;> omega
      rw [hw]
      refine hX _ ⟨_, _, rfl, by omega, h2, fun i x hi' hx => ?_, h4⟩ (by simp only; omega)
      have hs : strLt t[(lo + hi) / 2].Name name = true := by
        have := cmpStr_spec t[(lo + hi) / 2].Name name
        simp at e2
        rcases this with ⟨a, _⟩ | ⟨_, a, _⟩ | ⟨a, _⟩
        · omega
        · exact a
        · omega
      rcases Nat.lt_or_ge i ((lo + hi) / 2) with hc | hc
      · exact strLt_trans _ _ _ (rising_mono ht hx (List.getElem?_eq_getElem hm) hc) hs
      · have : i = (lo + hi) / 2 := by omega
        subst this; rw [List.getElem?_eq_getElem hm] at hx; injection hx with hx; subst hx; exact hs
    · refine hX _ ⟨_, _, rfl, by omega, by omega, h3, fun i x hi' hx => ?_⟩ (by simp only; omega)
      have hs : strLt t[(lo + hi) / 2].Name name = false := by
        have := cmpStr_spec t[(lo + hi) / 2].Name name
        simp at e2
        rcases this with ⟨_, a⟩ | ⟨a, _⟩ | ⟨_, _, a, _⟩
        · rw [a]; exact strLt_irrefl _
        · omega
        · exact a
      rcases Nat.lt_or_ge ((lo + hi) / 2) i with hc | hc
      · cases hb : strLt x.Name name with
        | false => rfl
        | true => have := strLt_trans _ _ _ (rising_mono ht (List.getElem?_eq_getElem hm) hx hc) hb; rw [hs] at this; cases this
      · have : i = (lo + hi) / 2 := by omega
        subst this; rw [List.getElem?_eq_getElem hm] at hx; injection hx with hx; subst hx; exact hs
  · have heq : lo = hi := by simp at e; omega
    subst heq
    have none_of : (∀ x, t[lo]? = some x → x.Name ≠ name) → findTool t name = none := by
      intro hne
      unfold findTool
      rw [List.find?_eq_none]
      intro x hx
      obtain ⟨i, hi⟩ := List.getElem?_of_mem hx
      simp only [beq_iff_eq]
      intro he
      rcases Nat.lt_trichotomy i lo with hc | hc | hc
      · have := h3 i x hc hi; rw [he, strLt_irrefl] at this; cases this
      · subst hc; exact hne x hi he
      · have hl' := lt_of_get hi
        have h5 := h4 lo _ (Nat.le_refl _) (List.getElem?_eq_getElem (by omega))
        have h6 := rising_mono ht (List.getElem?_eq_getElem (show lo < t.length by omega)) hi hc
        rw [he, h5] at h6; cases h6
    refine cnd_of (fun e2 => ?_) (fun e2 => ?_)
    · have hlt : lo < t.length := by simp at e2; omega
      refine idx_nat (List.getElem?_eq_getElem hlt) ?_
      have := cmpStr_spec t[lo].Name name
      rcases this with ⟨a, b⟩ | ⟨a, _, b⟩ | ⟨a, _, _, b⟩
      · rw [a]
        rw [findTool_some ht (List.getElem?_eq_getElem hlt) b] at h
        simp only [beq_self_eq_true, Bool.not_true, cnd_false]
        exact idx_nat (List.getElem?_eq_getElem hlt) h
      · rw [a]
        rw [none_of (fun x hx => by rw [List.getElem?_eq_getElem hlt] at hx; injection hx with hx; subst hx; exact b)] at h
        simpa using h
      · rw [a]
        rw [none_of (fun x hx => by rw [List.getElem?_eq_getElem hlt] at hx; injection hx with hx; subst hx; exact b)] at h
        simpa using h
    · rw [none_of (fun x hx => by have := lt_of_get hx; simp at e2; omega)] at h
      simpa using h
theorem S_ref8_bitOf {t : List Bit} {name : Str} {Q : Int → Prop} (h : match t.findIdx? (fun b => b.Name == name) with | some i => Q (i : Int) | none => Q (-1)) : M_ref8_bitOf t name Q := by
  unfold M_ref8_bitOf
  refine forIn_find (fun b => b.Name == name) (fun k x next h => ?_) t 0 (A := fun i => Q (i : Int)) ?_
  · unfold M_ref8_bitOf_L1; rw [cnd_iff]; exact h
  · cases hf : t.findIdx? (fun b => b.Name == name) with
    | none => simpa [hf] using h
    | some i => simpa [hf] using h
theorem findTool_idx {t : List Bit} {name : Str} : match t.findIdx? (fun b => b.Name == name) with | some i => ∃ b, t[i]? = some b ∧ findTool t name = some b | none => findTool t name = none := by
  unfold findTool
  induction t with
  | nil => simp
  | cons x r ih =>
    rw [List.findIdx?_cons, List.find?_cons]
    cases hx : (x.Name == name)
    · simp only [Bool.false_eq_true, if_false]
      cases hr : r.findIdx? (fun b => b.Name == name) with
      | none => rw [hr] at ih; simpa using ih
      | some i => rw [hr] at ih; obtain ⟨b, hb, hf⟩ := ih; exact ⟨b, by simpa using hb, hf⟩
    · simp
theorem seg_take {α : Type} (l : List α) (k : Nat) : seg l (0 : Int) (k : Int) = l.take k := by simp [seg]
theorem S_contains_sameTool {l : List Job} {x : Job} {Q : Bool → Prop} (h : Q (l.any (fun y => y.Tool == x.Tool))) : M_contains_sameTool l x Q := by
  unfold M_contains_sameTool M_index_sameTool
  refine forIn_find (fun y => y.Tool == x.Tool) (fun k y next h => ?_) l 0 (A := fun i => Q (decide ((i : Int) ≥ 0))) ?_
  · unfold M_index_sameTool_L1 M_CheckJobs1; exact cnd_iff.2 h
  · cases hf : l.findIdx? (fun y => y.Tool == x.Tool) with
    | none =>
      rw [List.findIdx?_eq_none_iff] at hf
      have : l.any (fun y => y.Tool == x.Tool) = false := by rw [List.any_eq_false]; intro y hy; simp [hf y hy]
      rw [this] at h; simpa using h
    | some i =>
      have h2 := List.findIdx?_eq_some_iff_getElem.1 hf
      obtain ⟨hlt, h3, _⟩ := h2
      have : l.any (fun y => y.Tool == x.Tool) = true := List.any_eq_true.2 ⟨_, List.getElem_mem hlt, h3⟩
      rw [this] at h; simpa using h

/-! ### jobs -/
def jobBad (t : List Bit) (j : List Job) (k : Nat) (x : Job) : Int :=
  if findTool t x.Tool = none then 9 else if (j.take k).any (fun y => y.Tool == x.Tool) = true then 7 else holesFault x.Holes
def holesTo (j : List Job) (k : Nat) : List Hole := (j.take k).flatMap (·.Holes)
def jobsFault (t : List Bit) (j : List Job) : Int :=
  if toolsFault t ≠ 0 then toolsFault t else if (j.length : Int) > 100 then 2 else if firstBad (jobBad t j) j 0 ≠ 0 then firstBad (jobBad t j) j 0 else if ((holesTo j j.length).length : Int) > 2000 then 2 else 0
theorem holesTo_succ {j : List Job} {k : Nat} {x : Job} (hx : j[k]? = some x) : holesTo j (k + 1) = holesTo j k ++ x.Holes := by
  unfold holesTo
  rw [List.take_add_one, hx, List.flatMap_append]; simp
theorem jobBad_len {t : List Bit} {j : List Job} {k : Nat} {x : Job} (h : jobBad t j k x = 0) : x.Holes.length ≤ 2000 ∧ holesFault x.Holes = 0 ∧ ∃ b, findTool t x.Tool = some b := by
  unfold jobBad at h
  split at h; · omega
  rename_i h1
  split at h; · omega
  exact ⟨holes_len h, h, Option.ne_none_iff_exists'.1 h1⟩
theorem holesTo_len {j : List Job} : ∀ k, (∀ i y, i < k → j[i]? = some y → y.Holes.length ≤ 2000) → (holesTo j k).length ≤ k * 2000
  | 0, _ => by simp [holesTo]
  | k + 1, h => by
    have ih := holesTo_len k (fun i y hi hy => h i y (by omega) hy)
    cases hx : j[k]? with
    | none => have e : holesTo j (k + 1) = holesTo j k := by unfold holesTo; rw [List.take_add_one, hx]; simp
              rw [e]; exact Nat.le_trans ih (Nat.mul_le_mul_right _ (Nat.le_succ _))
    | some x => rw [holesTo_succ hx, List.length_append]; have := h k x (by omega) hx; omega
theorem S_drill_CheckJobs {t : List Bit} {j : List Job} (ht : Fits.fits t) {Q : Int → Prop} (h : Q (jobsFault t j)) : M_drill_CheckJobs t j Q := by
  unfold M_drill_CheckJobs
  unfold jobsFault at h
  refine S_drill_CheckTools ht (cnd_of (fun e => ?_) (fun e => cnd_of (fun e2 => ?_) (fun e2 => ?_)))
  · rw [if_pos (by simpa using e)] at h; exact h
  · rw [if_neg (by simpa using e), if_pos (by simpa using e2)] at h; exact h
  · have e' : toolsFault t = 0 := by simpa using e
    rw [if_neg (by simpa using e), if_neg (by simpa using e2)] at h
    obtain ⟨hl, hr, _⟩ := tools_ok e'
    have hj : j.length ≤ 100 := by simp at e2; omega
    refine forIn_firstS (jobBad t j) (fun k => ((holesTo j k).length : Int)) (by simp [holesTo]) (A := Q) (fun i x next hx hf hA => ?_) (fun i x next hx hf hb hn => ?_) (fun h0 => by rw [if_pos h0] at h; exact h) (fun h0 => ?_)
    · unfold M_drill_CheckJobs_L1
      unfold jobBad at hf hA
      refine S_drill_toolAt hr hl ?_
      cases hft : findTool t x.Tool with
      | none => simp only [hft, if_true] at hA; simpa using hA
      | some b =>
        have hi := lt_of_get hx
        simp only [hft, reduceCtorEq, if_false] at hf hA
        simp only [Bool.not_true, cnd_false]
        refine ⟨by omega, S_contains_sameTool ?_⟩
        rw [seg_take]
        split at hA
        · rename_i h2; rw [h2, cnd_true]; exact hA
        · rename_i h2
          simp only [Bool.not_eq_true] at h2
          rw [h2, cnd_false]
          refine S_drill_CheckHoles (cnd_of (fun _ => hA) (fun e3 => ?_))
          rw [if_neg (by simp [h2])] at hf
          simp at e3; exact absurd e3 hf
    · unfold M_drill_CheckJobs_L1
      obtain ⟨hlen, hh, b, hft⟩ := jobBad_len hf
      unfold jobBad at hf
      have hi := lt_of_get hx
      refine S_drill_toolAt hr hl ?_
      rw [hft]
      simp only [Bool.not_true, cnd_false]
      refine ⟨by omega, S_contains_sameTool ?_⟩
      rw [seg_take]
      simp only [hft, reduceCtorEq, if_false] at hf
      split at hf
      · omega
      · rename_i h2
        simp only [Bool.not_eq_true] at h2
        rw [h2, cnd_false]
        refine S_drill_CheckHoles ?_
        rw [hh]
        simp only [bne_self_eq_false, cnd_false]
        have hb2 := holesTo_len (j := j) i (fun k y hk hy => (jobBad_len (hb k y hk hy)).1)
        have hw : w64 (((holesTo j i).length : Int) + (x.Holes.length : Int)) = ((holesTo j (i + 1)).length : Int) := by
          rw [holesTo_succ hx, List.length_append, w64_id] <;> omega
        rw [hw]; exact hn
    · rw [if_neg (by simpa using h0)] at h
      refine cnd_of (fun e3 => ?_) (fun e3 => ?_)
      · rw [if_pos (by simpa using e3)] at h; exact h
      · rw [if_neg (by simpa using e3)] at h; exact h
theorem S_ref8_CheckJobs {t : List Bit} {j : List Job} (ht : Fits.fits t) {Q : Int → Prop} (h : Q (jobsFault t j)) : M_ref8_CheckJobs t j Q := by
  unfold M_ref8_CheckJobs
  unfold jobsFault at h
  refine S_ref8_CheckTools ht (cnd_of (fun e => ?_) (fun e => cnd_of (fun e2 => ?_) (fun e2 => ?_)))
  · rw [if_pos (by simpa using e)] at h; exact h
  · rw [if_neg (by simpa using e), if_pos (by simpa using e2)] at h; exact h
  · have e' : toolsFault t = 0 := by simpa using e
    rw [if_neg (by simpa using e), if_neg (by simpa using e2)] at h
    have hj : j.length ≤ 100 := by simp at e2; omega
    have bit : ∀ (x : Job) (K : Int → Prop), (findTool t x.Tool = none → K (-1)) → (∀ i : Nat, K (i : Int)) → M_ref8_bitOf t x.Tool K := by
      intro x K h1 h2
      refine S_ref8_bitOf ?_
      have := findTool_idx (t := t) (name := x.Tool)
      split <;> rename_i hfi
      · exact h2 _
      · rw [hfi] at this; exact h1 this
    refine forIn_firstS (jobBad t j) (fun k => ((holesTo j k).length : Int)) (by simp [holesTo]) (A := Q) (fun i x next hx hf hA => ?_) (fun i x next hx hf hb hn => ?_) (fun h0 => by rw [if_pos h0] at h; exact h) (fun h0 => ?_)
    · unfold M_ref8_CheckJobs_L1
      unfold jobBad at hf hA
      have hi := lt_of_get hx
      refine S_ref8_bitOf ?_
      have hfi := findTool_idx (t := t) (name := x.Tool)
      split at hfi <;> rename_i e3
      · obtain ⟨b, hb, hft⟩ := hfi
        rename_i k
        simp only [show decide ((k : Int) < 0) = false from decide_eq_false (by omega), cnd_false]
        refine ⟨by omega, ?_⟩
        rw [seg_take]
        simp only [hft, reduceCtorEq, if_false] at hf hA
        refine forIn_any (fun y => y.Tool == x.Tool) (fun k y next h => by unfold M_ref8_CheckJobs_L2; rw [cnd_iff]; exact h) (j.take i) 0 (A := Q 7) ?_
        split
        · rename_i h2; rw [if_pos h2] at hA; exact hA
        · rename_i h2
          rw [if_neg h2] at hA hf
          refine S_ref8_CheckHoles (cnd_of (fun _ => hA) (fun e3 => ?_))
          simp at e3; exact absurd e3 hf
      · simp only [hfi, if_true] at hA
        simpa using hA
    · unfold M_ref8_CheckJobs_L1
      obtain ⟨hlen, hh, b, hft⟩ := jobBad_len hf
      unfold jobBad at hf
      have hi := lt_of_get hx
      refine S_ref8_bitOf ?_
      have hfi := findTool_idx (t := t) (name := x.Tool)
      split at hfi <;> rename_i e3
      · rename_i k
        simp only [show decide ((k : Int) < 0) = false from decide_eq_false (by omega), cnd_false]
        refine ⟨by omega, ?_⟩
        rw [seg_take]
        simp only [hft, reduceCtorEq, if_false] at hf
        refine forIn_any (fun y => y.Tool == x.Tool) (fun k y next h => by unfold M_ref8_CheckJobs_L2; rw [cnd_iff]; exact h) (j.take i) 0 (A := Q 7) ?_
        split
        · rename_i h2; rw [if_pos h2] at hf; omega
        · refine S_ref8_CheckHoles ?_
          rw [hh]
          simp only [bne_self_eq_false, cnd_false]
          have hb2 := holesTo_len (j := j) i (fun k y hk hy => (jobBad_len (hb k y hk hy)).1)
          have hw : w64 (((holesTo j i).length : Int) + (x.Holes.length : Int)) = ((holesTo j (i + 1)).length : Int) := by
            rw [holesTo_succ hx, List.length_append, w64_id] <;> omega
          rw [hw]; exact hn
      · rw [hfi] at hft; cases hft
    · rw [if_neg (by simpa using h0)] at h
      refine cnd_of (fun e3 => ?_) (fun e3 => ?_)
      · rw [if_pos (by simpa using e3)] at h; exact h
      · rw [if_neg (by simpa using e3)] at h; exact h
theorem jobs_ok {t : List Bit} {j : List Job} (h : jobsFault t j = 0) : toolsFault t = 0 ∧ j.length ≤ 100 ∧ (∀ i x, j[i]? = some x → jobBad t j i x = 0) ∧ (holesTo j j.length).length ≤ 2000 := by
  unfold jobsFault at h
  split at h
  · rename_i h1; exact absurd h h1
  · rename_i h1
    split at h; · omega
    split at h
    · rename_i h3; exact absurd h h3
    · rename_i h3
      split at h; · omega
      refine ⟨Decidable.not_not.1 h1, by omega, fun i x hx => ?_, by omega⟩
      have := firstBad_zero (Decidable.not_not.1 h3) i x hx
      rwa [Nat.zero_add] at this
end Go.Proofs.YtdnilnmdbgcmoaaGreatDoor

/- Chapter 8: checks of holes and tools, sizes: plain. -/
import Derived.Test.YtcmgagedebbpoaaChecksA
import Derived.Test.YtcmgagedebbpoaaPlain
namespace Go.Proofs.Ytcmgagedebbpoaa
open Go Go.RowKit
set_option linter.unusedVariables false

theorem S_contains_notPoint {l : List Point} {Q : Bool → Prop} (h : Q (l.any notPoint)) : M_contains_notPoint l Q := by
  unfold M_contains_notPoint M_index_notPoint
  refine forIn0 (fun k _ => ∀ i x, i < k → l[i]? = some x → notPoint x = false) (fun i x h => by omega) (fun k x s hx hI next hn => ?_) (fun s hI => ?_)
  · refine cnd_of (fun e => ?_) (fun e => hn _ (fun i y hi hy => ?_))
    · have : l.any notPoint = true := List.any_eq_true.2 ⟨x, List.mem_of_getElem? hx, e⟩
      rw [this] at h
      simpa using h
    · rcases Nat.lt_or_ge i k with hlt | hge
      · exact hI i y hlt hy
      · have : i = k := by omega
        subst this; rw [hx] at hy; injection hy with hy; subst hy; exact e
  · have : l.any notPoint = false := by
      rw [List.any_eq_false]
      intro x hx
      obtain ⟨i, hi⟩ := List.getElem?_of_mem hx
      simpa using hI i x (lt_of_get hi) hi
    rw [this] at h
    simpa using h

/-- the error of points -/
def pointsFault (l : List Point) (fr : Point) (most : Int) : Int := if (l.length : Int) > most then 2 else if isPoint fr = false ∨ l.any notPoint = true then 1 else 0
theorem S_drill_checkPoints {l : List Point} {fr : Point} {most : Int} {Q : Int → Prop} (h : Q (pointsFault l fr most)) : M_drill_checkPoints l fr most Q := by
  unfold M_drill_checkPoints pointsFault at *
  refine cnd_of (fun e => ?_) (fun e => cnd_of (fun e2 => ?_) (fun e2 => S_contains_notPoint ?_))
  · simp at e; simpa [e] using h
  · simp at e e2; unfold M_drill_checkPoints_k1; simp [show ¬ most < l.length by omega, e2] at h; simpa using h
  · simp at e e2; unfold M_drill_checkPoints_k1
    generalize l.any notPoint = b at h ⊢
    cases b <;> simp [show ¬ most < l.length by omega, e2] at h ⊢ <;> exact h
/-! ### how far it goes -/
def wayTo (l : List Point) (fr : Point) : Int := (l.zipIdx.foldl (fun (s : Point × Int) p => (p.1, w64 (s.2 + far s.1 p.1))) (fr, 0)).2
theorem S_drill_way {l : List Point} {fr : Point} {Q : Int → Prop} (h : Q (wayTo l fr)) : M_drill_way l fr Q := by
  unfold M_drill_way
  exact forIn_run (fun k x s => (x, w64 (s.2 + far s.1 x))) (fun k x s next h => h) l 0 (fr, 0) h
theorem S_drill_Way {l : List Point} {fr : Point} {Q : Int → Int → Prop} (h : if pointsFault l fr 2000 = 0 then Q (wayTo l fr) 0 else Q 0 (pointsFault l fr 2000)) : M_drill_Way l fr Q := by
  unfold M_drill_Way
  refine S_drill_checkPoints (cnd_of (fun e => ?_) (fun e => S_drill_way ?_))
  · simp at e; simpa [e] using h
  · simp at e; simpa [e] using h
theorem S_equal_int {xs ys : List Int} {Q : Bool → Prop} (h : Q (decide (xs = ys))) : M_equal_int xs ys Q := by
  unfold M_equal_int
  refine cnd_of (fun e => ?_) (fun e => ?_)
  · simp at e
    have hne : xs ≠ ys := fun he => e (by rw [he])
    simpa [hne] using h
  · simp at e
    refine forIn0 (fun k _ => ∀ i, i < k → xs[i]? = ys[i]?) (fun i h => by omega) (fun k x s hx hI next hn => ?_) (fun s hI => ?_)
    · have hk := lt_of_get hx
      refine idx_nat (List.getElem?_eq_getElem (by omega)) (cnd_of (fun e2 => ?_) (fun e2 => hn _ (fun i hi => ?_)))
      · have hne : xs ≠ ys := fun he => by subst he; rw [List.getElem?_eq_getElem hk] at hx; injection hx with hx; simp [hx] at e2
        simpa [hne] using h
      · rcases Nat.lt_or_ge i k with hlt | hge
        · exact hI i hlt
        · have : i = k := by omega
          subst this
          simp at e2
          rw [hx, e2, List.getElem?_eq_getElem]
    · have he : xs = ys := by
        apply List.ext_getElem?
        intro i
        rcases Nat.lt_or_ge i xs.length with hlt | hge
        · exact hI i hlt
        · rw [List.getElem?_eq_none hge, List.getElem?_eq_none (by omega)]
      simpa [he] using h

theorem S_awake {Q : Bool → Prop} (h : Q true) : M_awake Q := by
  unfold M_awake
  refine S_drill_Way ?_
  have h1 : pointsFault [⟨5, 0⟩, ⟨1, 0⟩, ⟨2, 3⟩] ⟨0, 0⟩ 2000 = 0 := by decide
  have h2 : wayTo [⟨5, 0⟩, ⟨1, 0⟩, ⟨2, 3⟩] ⟨0, 0⟩ = 12 := by decide
  rw [if_pos h1, h2]
  simpa using h

def holeBad (h : Hole) : Bool := !(isPoint h.At) || !(within h.Size 1 10000) || !(within h.Depth 1 100000)
def holesFault (l : List Hole) : Int := if (l.length : Int) > 2000 then 2 else if l.any holeBad = true then 1 else 0
theorem S_drill_CheckHoles {l : List Hole} {Q : Int → Prop} (h : Q (holesFault l)) : M_drill_CheckHoles l Q := by
  unfold M_drill_CheckHoles
  unfold holesFault at h
  refine cnd_of (fun e => ?_) (fun e => ?_)
  · rw [if_pos (by simpa using e)] at h; exact h
  · rw [if_neg (by simpa using e)] at h
    refine forIn_any holeBad (fun k x next h => ?_) l 0 (A := Q 1) ?_
    · unfold M_drill_CheckHoles_L1 M_drill_CheckHoles_k2
      unfold holeBad at h
      cases h1 : isPoint x.At <;> cases h2 : within x.Size 1 10000 <;> simp [h1, h2] at h ⊢ <;> first | exact h | (simp [cnd_iff]; exact h)
    · split <;> rename_i e2
      · rw [if_pos e2] at h; exact h
      · rw [if_neg e2] at h; exact h
theorem S_ref8_CheckHoles {l : List Hole} {Q : Int → Prop} (h : Q (holesFault l)) : M_ref8_CheckHoles l Q := S_drill_CheckHoles h
theorem holes_len {l : List Hole} (h : holesFault l = 0) : l.length ≤ 2000 := by
  unfold holesFault at h; split at h <;> omega

/-! ### words -/
def badByte (x : UInt8) : Bool := (decide ((x.toNat : Int) < 65) || decide ((x.toNat : Int) > 90)) && (decide ((x.toNat : Int) < 97) || decide ((x.toNat : Int) > 122)) && (decide ((x.toNat : Int) < 48) || decide ((x.toNat : Int) > 57)) && decide (byteAt [95, 43, 45, 35] (x.toNat : Int) < 0)
def isWord (s : Str) : Bool := !(s.any badByte) && decide (1 ≤ s.length) && decide (s.length ≤ 40)
theorem S_netlist_IsWord {s : Str} (hs : Fits.fits s) {Q : Bool → Prop} (h : Q (isWord s)) : M_netlist_IsWord s Q := by
  unfold M_netlist_IsWord
  refine lp_scan hs badByte (A := Q false) (done := Q (decide (1 ≤ s.length) && decide (s.length ≤ 40))) (fun X n hX => ?_) ?_
  · unfold M_netlist_IsWord_L1 M_netlist_IsWord_k2
    refine cnd_mono hX (fun hi => ?_) (fun hq => ?_)
    · obtain ⟨h0, x, hx, hc⟩ := hi
      refine ⟨h0, x, hx, ?_⟩
      unfold badByte at hc
      cases h1 : decide ((x.toNat : Int) < 65) <;> cases h2 : decide ((x.toNat : Int) > 90) <;> cases h3 : decide ((x.toNat : Int) < 97) <;> cases h4 : decide ((x.toNat : Int) > 122) <;> cases h5 : decide ((x.toNat : Int) < 48) <;> cases h6 : decide ((x.toNat : Int) > 57) <;>
        simp only [h1, h2, h3, h4, h5, h6, Bool.or_true, Bool.true_or, Bool.or_false, Bool.false_and, Bool.true_and, Bool.and_true, Bool.and_false, cnd_true, cnd_false] at hc ⊢ <;> exact hc
    · refine cnd_of (fun e => ?_) (fun e => ?_)
      · have e1 : 1 ≤ s.length := by simp at e; omega
        have : decide ((s.length : Int) ≤ 40) = decide (s.length ≤ 40) := by congr 1; exact propext ⟨fun h => by omega, fun h => by omega⟩
        rw [this]; simpa [e1] using hq
      · have e1 : ¬ 1 ≤ s.length := by simp at e; omega
        simpa [e1] using hq
  · unfold isWord at h
    split
    · rename_i e; simpa [e] using h
    · rename_i e; simpa [e] using h
theorem S_ref8_isWord {s : Str} (hs : Fits.fits s) {Q : Bool → Prop} (h : Q (isWord s)) : M_ref8_isWord s Q := by
  unfold M_ref8_isWord
  refine lp_scan hs badByte (A := Q false) (done := Q (decide (1 ≤ s.length) && decide (s.length ≤ 40))) (fun X n hX => ?_) ?_
  · unfold M_ref8_isWord_L1 M_ref8_isWord_k2
    refine cnd_mono hX (fun hi => ?_) (fun hq => ?_)
    · obtain ⟨h0, x, hx, hc⟩ := hi
      refine ⟨h0, x, hx, ?_⟩
      unfold badByte at hc
      cases h1 : decide ((x.toNat : Int) < 65) <;> cases h2 : decide ((x.toNat : Int) > 90) <;> cases h3 : decide ((x.toNat : Int) < 97) <;> cases h4 : decide ((x.toNat : Int) > 122) <;> cases h5 : decide ((x.toNat : Int) < 48) <;> cases h6 : decide ((x.toNat : Int) > 57) <;>
        simp only [h1, h2, h3, h4, h5, h6, Bool.or_true, Bool.true_or, Bool.or_false, Bool.false_and, Bool.true_and, Bool.and_true, Bool.and_false, cnd_true, cnd_false] at hc ⊢ <;> exact hc
    · have : within (s.length : Int) 1 40 = (decide (1 ≤ s.length) && decide (s.length ≤ 40)) := by
        unfold within; congr 1 <;> (congr 1; exact propext ⟨fun h => by omega, fun h => by omega⟩)
      rw [this]; exact hq
  · unfold isWord at h
    split
    · rename_i e; simpa [e] using h
    · rename_i e; simpa [e] using h

/-! ### tools -/
def toolBad (t : List Bit) (k : Nat) (x : Bit) : Int :=
  if isWord x.Name = false then 5 else if within x.Size 1 10000 = false ∨ within x.Life 1 2000 = false ∨ within x.Stack 0 1000 = false then 1
  else if 0 < k ∧ (strLt x.Name (t.getD (k - 1) default).Name || x.Name == (t.getD (k - 1) default).Name) = true then 8 else 0
def toolsFault (t : List Bit) : Int := if (t.length : Int) > 100 then 2 else firstBad (toolBad t) t 0
theorem tools_step {t : List Bit} {Q : Int → Prop} {i : Nat} {x : Bit} {next : Prop} (hl : t.length ≤ 100) (hx : t[i]? = some x)
    (h : (toolBad t i x ≠ 0 → Q (toolBad t i x)) ∧ (toolBad t i x = 0 → next)) :
    cnd (!(isWord x.Name)) (Q 5) (cnd (!(within x.Size 1 10000)) (M_drill_CheckTools_k2 t Q i x next true) (cnd (!(within x.Life 1 2000)) (M_drill_CheckTools_k2 t Q i x next true) (M_drill_CheckTools_k2 t Q i x next (!(within x.Stack 0 1000))))) := by
  unfold M_drill_CheckTools_k2 M_drill_CheckTools_k3
  unfold toolBad at h
  have hi := lt_of_get hx
  cases hw : isWord x.Name
  · simp only [hw, if_true] at h; simpa using h.1 (by decide)
  · cases h1 : within x.Size 1 10000
    · simp only [hw, h1, true_or, if_true, Bool.true_eq_false, if_false] at h; simpa using h.1 (by decide)
    · cases h2 : within x.Life 1 2000
      · simp only [hw, h2, true_or, or_true, if_true, Bool.true_eq_false, if_false] at h; simpa using h.1 (by decide)
      · cases h3 : within x.Stack 0 1000
        · simp only [hw, h3, or_true, if_true, Bool.true_eq_false, if_false] at h; simpa using h.1 (by decide)
        · simp only [hw, h1, h2, h3, or_self, Bool.true_eq_false, if_false] at h
          simp only [Bool.not_true, cnd_false]
          refine cnd_of (fun e => ?_) (fun e => ?_)
          · have hk : 0 < i := by simpa using e
            have hw' : w64 ((i : Int) - 1) = ((i - 1 : Nat) : Int) := by rw [w64_id] <;> omega
            rw [hw']
            refine idx_nat (x := t.getD (i - 1) default) (by rw [List.getD_eq_getElem?_getD, List.getElem?_eq_getElem (by omega)]; rfl) ?_
            generalize (strLt x.Name (t.getD (i - 1) default).Name || x.Name == (t.getD (i - 1) default).Name) = b at h ⊢
            cases b
            · simp only [Bool.false_eq_true, and_false, if_false, cnd_false] at h ⊢; exact h.2 trivial
            · simp only [hk, and_true, if_true, cnd_true] at h ⊢; exact h.1 (by decide)
          · have hk : ¬ 0 < i := by simpa using e
            simp only [hk, false_and, if_false, cnd_false] at h ⊢
            exact h.2 trivial
theorem S_drill_CheckTools {t : List Bit} (ht : Fits.fits t) {Q : Int → Prop} (h : Q (toolsFault t)) : M_drill_CheckTools t Q := by
  unfold M_drill_CheckTools
  unfold toolsFault at h
  refine cnd_of (fun e => ?_) (fun e => ?_)
  · rw [if_pos (by simpa using e)] at h; exact h
  · rw [if_neg (by simpa using e)] at h
    refine forIn_firstS (toolBad t) (fun _ => ()) rfl (A := Q) (fun i x next hx hf hA => ?_) (fun i x next hx hf _ hn => ?_) (fun _ => h) (fun h0 => by rw [h0] at h; exact h)
    · unfold M_drill_CheckTools_L1
      exact S_netlist_IsWord (ht x (List.mem_of_getElem? hx)).1 (tools_step (by simp at e; omega) hx ⟨fun _ => hA, fun e => absurd e hf⟩)
    · unfold M_drill_CheckTools_L1
      exact S_netlist_IsWord (ht x (List.mem_of_getElem? hx)).1 (tools_step (by simp at e; omega) hx ⟨fun e => absurd hf e, fun _ => hn⟩)
theorem S_ref8_CheckTools {t : List Bit} (ht : Fits.fits t) {Q : Int → Prop} (h : Q (toolsFault t)) : M_ref8_CheckTools t Q := by
  unfold M_ref8_CheckTools
  unfold toolsFault at h
  refine cnd_of (fun e => ?_) (fun e => ?_)
  · rw [if_pos (by simpa using e)] at h; exact h
  · rw [if_neg (by simpa using e)] at h
    refine forIn_firstS (toolBad t) (fun _ => ()) rfl (A := Q) (fun i x next hx hf hA => ?_) (fun i x next hx hf _ hn => ?_) (fun _ => h) (fun h0 => by rw [h0] at h; exact h)
    · unfold M_ref8_CheckTools_L1
      exact S_ref8_isWord (ht x (List.mem_of_getElem? hx)).1 (tools_step (by simp at e; omega) hx ⟨fun _ => hA, fun e => absurd e hf⟩)
    · unfold M_ref8_CheckTools_L1
      exact S_ref8_isWord (ht x (List.mem_of_getElem? hx)).1 (tools_step (by simp at e; omega) hx ⟨fun e => absurd hf e, fun _ => hn⟩)

/-! ### sizes: whatever Compact answers, it answers it to both -/
theorem compact_in {s : List Int} {n2 : Nat} (hs : s.length ≤ 1000000) (hn2 : n2 < s.length) : ∀ (d : Nat) (l2 : List Int) (n5 n6 : Nat), l2.length = s.length → n5 + 1 ≤ n2 + n6 → 1 ≤ n6 → n6 + d = s.length - n2 →
    ∃ r, ∀ Q : List Int → Prop, Q r → iterF (fun again (s' : List Int × Int × Int) => M_compact_int_L2 s Q n2 (fun l2 n5 n6 => again (l2, n5, n6)) s'.1 s'.2.1 s'.2.2) (d + 1) (l2, (n5 : Int), (n6 : Int))
  | d, l2, n5, n6, hl, h5, h1, hd => by
    have hseg : (seg l2 (n2 : Int) (s.length : Int)).length = s.length - n2 := by unfold seg; rw [List.length_drop, List.length_take]; omega
    match d, hd with
    | 0, hd =>
      refine ⟨(zeroed l2 (n5 : Int) (l2.length : Int) 0).take (n5 : Int).toNat, fun Q hQ => ?_⟩
      show cnd _ _ _
      dsimp only
      refine cnd_of (fun e => absurd (of_decide_eq_true e) (by rw [hseg]; omega)) (fun _ => ⟨⟨by omega, by omega, by omega⟩, ⟨by omega, ?_⟩, hQ⟩)
      have hz : (zeroed l2 (n5 : Int) (l2.length : Int) 0).length = l2.length := zeroed_length
      omega
    | d + 1, hd =>
      have i6 : n6 < (seg l2 (n2 : Int) (s.length : Int)).length := by rw [hseg]; omega
      have i7 : n6 - 1 < (seg l2 (n2 : Int) (s.length : Int)).length := by omega
      have hw : w64 ((n6 : Int) - 1) = ((n6 - 1 : Nat) : Int) := by rw [w64_id (by omega) (by omega)]; omega
      have hw5 : w64 ((n5 : Int) + 1) = ((n5 + 1 : Nat) : Int) := by rw [w64_id (by omega) (by omega)]; omega
      have hw6 : w64 ((n6 : Int) + 1) = ((n6 + 1 : Nat) : Int) := by rw [w64_id (by omega) (by omega)]; omega
      by_cases hx : (seg l2 (n2 : Int) (s.length : Int))[n6] = (seg l2 (n2 : Int) (s.length : Int))[n6 - 1]
      · obtain ⟨r, hr⟩ := compact_in hs hn2 d l2 n5 (n6 + 1) hl (by omega) (by omega) (by omega)
        refine ⟨r, fun Q hQ => ?_⟩
        have ih := hr Q hQ
        show cnd _ _ _
        dsimp only
        refine cnd_of (fun _ => idx_nat (List.getElem?_eq_getElem i6) ?_) (fun e => absurd (of_decide_eq_false e) (by omega))
        rw [hw, hw5, hw6]
        refine idx_nat (List.getElem?_eq_getElem i7) (cnd_of (fun e => by rw [hx] at e; simp at e) (fun _ => ih))
      · obtain ⟨r, hr⟩ := compact_in hs hn2 d (l2.set n5 (seg l2 (n2 : Int) (s.length : Int))[n6]) (n5 + 1) (n6 + 1) (by rw [List.length_set]; exact hl) (by omega) (by omega) (by omega)
        refine ⟨r, fun Q hQ => ?_⟩
        have ih := hr Q hQ
        show cnd _ _ _
        dsimp only
        refine cnd_of (fun _ => idx_nat (List.getElem?_eq_getElem i6) ?_) (fun e => absurd (of_decide_eq_false e) (by omega))
        rw [hw, hw5, hw6]
        refine idx_nat (List.getElem?_eq_getElem i7) (cnd_of (fun _ => idx_nat (List.getElem?_eq_getElem (by omega : n5 < l2.length)) ?_) (fun e => absurd (by simpa using e) hx))
        rw [Int.toNat_natCast]; exact ih
theorem compact_out {s : List Int} (hs : s.length ≤ 1000000) : ∀ (d k : Nat), 1 ≤ k → k + d = s.length →
    ∃ r n, ∀ Q : List Int → Prop, Q r → iterF (fun again (s' : Int) => M_compact_int_L1 s Q (fun n2 => again n2) s') n (k : Int)
  | 0, k, h1, hd => by
    refine ⟨s, 1, fun Q hQ => ?_⟩
    show M_compact_int_L1 s Q _ k
    unfold M_compact_int_L1
    exact cnd_of (fun e => absurd (of_decide_eq_true e) (by omega)) (fun _ => hQ)
  | d + 1, k, h1, hd => by
    have hw : w64 ((k : Int) - 1) = ((k - 1 : Nat) : Int) := by rw [w64_id (by omega) (by omega)]; omega
    have hw1 : w64 ((k : Int) + 1) = ((k + 1 : Nat) : Int) := by rw [w64_id (by omega) (by omega)]; omega
    by_cases hx : s[k]'(by omega) = s[k - 1]'(by omega)
    · obtain ⟨r, hr⟩ := compact_in hs (by omega : k < s.length) (s.length - k - 1) s k 1 rfl (by omega) (by omega) (by omega)
      refine ⟨r, 1, fun Q hQ => ?_⟩
      show M_compact_int_L1 s Q _ k
      unfold M_compact_int_L1
      refine cnd_of (fun _ => idx_nat (List.getElem?_eq_getElem (by omega)) ?_) (fun e => absurd (of_decide_eq_false e) (by omega))
      rw [hw]
      refine idx_nat (List.getElem?_eq_getElem (by omega)) (cnd_of (fun _ => ⟨⟨by omega, by omega, by omega⟩, _, hr Q hQ⟩) (fun e => absurd hx (by simpa using e)))
    · obtain ⟨r, n, hr⟩ := compact_out hs d (k + 1) (by omega) (by omega)
      refine ⟨r, n + 1, fun Q hQ => ?_⟩
      have ih := hr Q hQ
      show M_compact_int_L1 s Q _ k
      unfold M_compact_int_L1
      refine cnd_of (fun _ => idx_nat (List.getElem?_eq_getElem (by omega)) ?_) (fun e => absurd (of_decide_eq_false e) (by omega))
      rw [hw, hw1]
      exact idx_nat (List.getElem?_eq_getElem (by omega)) (cnd_of (fun e => absurd (by simpa using e) hx) (fun _ => ih))
theorem compact_any {s : List Int} (hs : s.length ≤ 1000000) : ∃ r, ∀ Q : List Int → Prop, Q r → M_compact_int s Q := by
  unfold M_compact_int
  by_cases h2 : (s.length : Int) < 2
  · exact ⟨s, fun Q hQ => cnd_of (fun _ => hQ) (fun e => absurd h2 (of_decide_eq_false e))⟩
  · obtain ⟨r, n, hr⟩ := compact_out hs (s.length - 1) 1 (by omega) (by omega)
    exact ⟨r, fun Q hQ => cnd_of (fun e => absurd (of_decide_eq_true e) h2) (fun _ => ⟨n, hr Q hQ⟩)⟩
theorem sizes_any (l : List Hole) : ∃ r f, (∀ Q : List Int → Int → Prop, Q r f → M_drill_Sizes l Q) ∧ (∀ Q : List Int → Int → Prop, Q r f → M_ref8_Sizes l Q) := by
  by_cases h0 : holesFault l = 0
  · have hll := holes_len h0
    obtain ⟨r, hr⟩ := compact_any (s := sortInts (l.map (·.Size))) (by unfold sortInts; rw [List.length_mergeSort, List.length_map]; omega)
    have loop : ∀ {body : Nat → Hole → List Int → (List Int → Prop) → Prop} {done : List Int → Prop} (hb : ∀ k x s next, must (room (s ++ [x.Size]).length 8) (next (s ++ [x.Size])) → body k x s next), done (l.map (·.Size)) → forIn' body done l 0 [] := fun hb hd => by
      refine forIn0 (fun k acc => acc = (l.take k).map (·.Size)) rfl (fun k x acc hx hI next hn => hb _ _ _ _ ⟨?_, ?_⟩) (fun acc hI => by subst hI; rw [List.take_length]; exact hd)
      · have hk := lt_of_get hx
        refine room_of ?_ (by omega)
        rw [hI]; simp only [List.length_append, List.length_map, List.length_take, List.length_singleton]; omega
      · refine hn _ ?_
        rw [hI, List.take_add_one, hx]; simp
    have hlen : (l.map (·.Size)).length < 4611686018427387904 := by rw [List.length_map]; omega
    refine ⟨r, 0, fun Q hQ => ?_, fun Q hQ => ?_⟩
    · unfold M_drill_Sizes
      refine S_drill_CheckHoles (cnd_of (fun e => by rw [h0] at e; simp at e) (fun _ => loop (fun k x s next h => h) ?_))
      exact ⟨hlen, hr _ hQ⟩
    · unfold M_ref8_Sizes
      refine S_ref8_CheckHoles (cnd_of (fun e => by rw [h0] at e; simp at e) (fun _ => loop (fun k x s next h => h) ?_))
      exact ⟨hlen, hr _ hQ⟩
  · refine ⟨[], holesFault l, fun Q hQ => ?_, fun Q hQ => ?_⟩
    · unfold M_drill_Sizes
      exact S_drill_CheckHoles (cnd_of (fun _ => hQ) (fun e => absurd (by simpa using e) h0))
    · unfold M_ref8_Sizes
      exact S_ref8_CheckHoles (cnd_of (fun _ => hQ) (fun e => absurd (by simpa using e) h0))
theorem law_Checks_true (l : List Hole) (t : List Bit) (ht : Fits.fits t) : M_law_Checks l t (· = true) := by
  unfold M_law_Checks
  obtain ⟨r, f, h1, h2⟩ := sizes_any l
  refine h1 _ (h2 _ (S_drill_CheckHoles (S_ref8_CheckHoles ?_)))
  refine cnd_of (fun _ => S_drill_CheckTools ht (S_ref8_CheckTools ht ?_)) (fun e => by simp at e)
  refine cnd_of (fun _ => ?_) (fun e => by simp at e)
  refine cnd_of (fun _ => S_equal_int ?_) (fun e => by simp at e)
  exact cnd_of (fun _ => S_awake rfl) (fun e => by simp at e)
end Go.Proofs.Ytcmgagedebbpoaa

/- Chapter 7: finders, and the least cost of a way: plain laws. -/
import Derived.Test.YtihjaehkdgdenaaRtH
namespace Go.Proofs.Ytihjaehkdgdenaa
open Go Go.RowKit
set_option linter.unusedVariables false
set_option linter.unusedSimpArgs false

def df (a b : Int) : Int := max (a - b) (b - a)
/-- the axis of a step -/
def axC (a b : Cell) : Int :=
  if df a.X b.X = 1 ∧ df a.Y b.Y + df a.Layer b.Layer = 0 then 1
  else if df a.Y b.Y = 1 ∧ df a.X b.X + df a.Layer b.Layer = 0 then 2
  else if df a.Layer b.Layer = 1 ∧ df a.X b.X + df a.Y b.Y = 0 then 3 else 0
section
variable {g : Grid} {a b : Cell}
theorem df_w64 {p q : Int} (hp : 0 ≤ p ∧ p ≤ 1000) (hq : 0 ≤ q ∧ q ≤ 1000) : max (w64 (p - q)) (w64 (q - p)) = df p q ∧ 0 ≤ df p q ∧ df p q ≤ 1000 := by
  rw [w64_id (n := p - q) (by omega) (by omega), w64_id (n := q - p) (by omega) (by omega)]
  unfold df; omega
theorem cnd_and {b c : Bool} {A B : Prop} (h : if b = true ∧ c = true then A else B) : cnd b (cnd c A B) (cnd false A B) := by
  cases b <;> cases c <;> simpa using h
theorem S_along (hs : Sz g) (ha : inG g a = true) (hb : inG g b = true) {Q : Int → Prop} (h : Q (axC a b)) : M_ref7_along a b Q := by
  obtain ⟨ax, ay, az⟩ := inG_iff.1 ha
  obtain ⟨bx, by_, bz⟩ := inG_iff.1 hb
  have hW := hs.W; have hH := hs.H; have hL := hs.L
  have ap : ∀ p q : Int, 0 ≤ p ∧ p ≤ 1000 → 0 ≤ q ∧ q ≤ 1000 → w64 (max p q - min p q) = df p q := fun p q hp hq => by
    unfold df; rw [w64_id] <;> omega
  obtain ⟨_, p1, q1⟩ := df_w64 (p := a.X) (q := b.X) (by omega) (by omega)
  obtain ⟨_, p2, q2⟩ := df_w64 (p := a.Y) (q := b.Y) (by omega) (by omega)
  obtain ⟨_, p3, q3⟩ := df_w64 (p := a.Layer) (q := b.Layer) (by omega) (by omega)
  unfold M_ref7_along M_ref7_apart
  dsimp only
  rw [ap _ _ (by omega) (by omega), ap _ _ (by omega) (by omega), ap _ _ (by omega) (by omega)]
  unfold axC at h
  generalize df a.X b.X = x at *
  generalize df a.Y b.Y = y at *
  generalize df a.Layer b.Layer = z at *
  rw [w64_id (n := x + y) (by omega) (by omega), w64_id (n := x + y + z) (by omega) (by omega)]
  refine cnd_of (fun e => ?_) (fun e => cnd_of (fun e2 => ?_) (fun e2 => cnd_of (fun e3 => ?_) (fun e3 => ?_)))
  · simp at e
    rw [if_neg (by omega), if_neg (by omega), if_neg (by omega)] at h; exact h
  · simp at e e2
    rw [if_pos (by omega)] at h; exact h
  · simp at e e2 e3
    rw [if_neg (by omega), if_pos (by omega)] at h; exact h
  · simp at e e2 e3
    rw [if_neg (by omega), if_neg (by omega), if_pos (by omega)] at h; exact h
end
theorem S_contains_cell {s : List Cell} {v : Cell} {Q : Bool → Prop} (h : Q (decide (v ∈ s))) : M_contains_cell s v Q := by
  unfold M_contains_cell M_index_cell
  refine forIn_any (A := Q true) (fun x => decide (v = x)) (fun k x next hn => ?_) s 0 ?_
  · unfold M_index_cell_L1
    refine cnd_of (fun e => ?_) (fun e => ?_)
    · rw [if_pos e] at hn; rw [decide_eq_true (by omega)]; exact hn
    · rw [if_neg (by simp [e])] at hn; exact hn
  · have : s.any (fun x => decide (v = x)) = decide (v ∈ s) := by
      rw [Bool.eq_iff_iff, List.any_eq_true, decide_eq_true_eq]
      exact ⟨fun ⟨x, hx, e⟩ => (of_decide_eq_true e) ▸ hx, fun h => ⟨v, h, decide_eq_true rfl⟩⟩
    rw [this]
    split
    · rename_i e; rw [e] at h; exact h
    · rename_i e; rw [show decide (v ∈ s) = false by simpa using e] at h; simpa using h
theorem stepC_le {c : Costs} (hc : COk c) (layer last al : Int) : 0 ≤ (stepC c layer last al).1 ∧ (stepC c layer last al).1 ≤ 3000 := by
  have h1 := hc.step; have h2 := hc.via; have h3 := hc.turn; have h4 := hc.agn
  have e1 : w64 (c.Step + c.Against) = c.Step + c.Against := w64_id (by omega) (by omega)
  have e2 : w64 (c.Step + c.Against + c.Turn) = c.Step + c.Against + c.Turn := w64_id (by omega) (by omega)
  have e3 : w64 (c.Step + c.Turn) = c.Step + c.Turn := w64_id (by omega) (by omega)
  unfold stepC
  split
  · simp only; omega
  · simp only
    split <;> split <;> (try simp only [e1, e2, e3]) <;> omega
theorem S_ref_stepCost {c : Costs} {layer last al : Int} {Q : Int → Prop} (h : Q (stepC c layer last al).1) : M_ref7_stepCost c layer al last Q := by
  have := E_stepC c layer last al (Q := fun n _ => Q n) h
  unfold M_route_stepCost M_route_stepCost_k1 M_route_stepCost_k3 M_route_stepCost_k2 at this
  unfold M_ref7_stepCost M_ref7_stepCost_k1 M_ref7_stepCost_k2
  exact this
theorem stepC_last (c : Costs) (layer last al : Int) : (stepC c layer last al).2 = if al = 3 then last else al := by
  unfold stepC; split <;> rfl
/-! ### finders -/
def findF (g : Grid) (c : Costs) (l : List Cell) : Int :=
  if bothF g c ≠ 0 then bothF g c else if l.any (fun x => !inG g x) = true then 1 else if l.any (fun x => decide (x ∈ g.Blocked)) = true then 14 else 0
theorem S_find {g : Grid} {c : Costs} {l : List Cell} {Q : Option (List Bool) → Int → Prop} (h1 : findF g c l ≠ 0 → Q none (findF g c l)) (h0 : findF g c l = 0 → Q (some (noOf g)) 0) : M_find g c l Q := by
  unfold M_find
  unfold findF at h1 h0
  refine S_checkBoth (cnd_of (fun e => ?_) (fun e => ?_))
  · have e' : bothF g c ≠ 0 := by simpa using e
    rw [if_pos e'] at h1; exact h1 e'
  · have e' : bothF g c = 0 := by simpa using e
    obtain ⟨hg, hc⟩ := bothF_zero e'
    rw [if_neg (by simp [e'])] at h1 h0
    refine S_blocked hg ?_
    unfold M_containsFunc_find1 M_indexFunc_find1
    refine forIn_any (A := Q none 1) (fun x => !inG g x) (fun k x next hn => ?_) l 0 ?_
    · unfold M_indexFunc_find1_L1 M_find1
      refine S_isCell hg.sz ?_
      refine cnd_of (fun e2 => ?_) (fun e2 => ?_)
      · rw [if_pos (by simpa using e2)] at hn
        rw [decide_eq_true (by omega)]; simpa using hn
      · rw [if_neg (by simp [e2])] at hn; exact hn
    · split
      · rename_i e2; rw [if_pos e2] at h1; exact h1 (by decide)
      · rename_i e2
        rw [if_neg e2] at h1 h0
        have hin : ∀ x ∈ l, inG g x = true := fun x hx => by
          cases hq : inG g x with
          | true => rfl
          | false => exact absurd (List.any_eq_true.2 ⟨x, hx, by simp [hq]⟩) e2
        show cnd (decide ((-1 : Int) ≥ 0)) _ _
        rw [show decide ((-1 : Int) ≥ 0) = false by decide]
        simp only [cnd_false]
        show M_containsFunc_find2 _ _ _ _
        unfold M_containsFunc_find2 M_indexFunc_find2
        -- only cells of the grid are asked for
        refine forIn_checkP (t := l) (Q := fun n => Q none n) (D := cnd (decide ((-1 : Int) ≥ 0)) (Q none 14) (Q (some (noOf g)) 0)) (body := fun k x s next => M_indexFunc_find2_L1 ⟨g, c, noOf g⟩ g (fun y1 => cnd (decide (y1 ≥ 0)) (Q none 14) (Q (some (noOf g)) 0)) k x (next ())) (fun k x => if x ∈ g.Blocked then 14 else 0) (fun k x next hx hI hne hz => ?_) ?_
        · unfold M_indexFunc_find2_L1 M_find2
          have hxg := hin x (List.mem_of_getElem? hx)
          refine S_number hg.sz hxg ?_
          refine idx_nat (noOf_cell hg hxg) ?_
          refine cnd_of (fun e3 => ?_) (fun e3 => ?_)
          · rw [if_pos (by simpa using e3)] at hne
            rw [decide_eq_true (by omega)]; simp only [cnd_true]; exact hne (by decide)
          · rw [if_neg (by simpa using e3)] at hz; exact hz rfl
        · have hfb : ∀ (l : List Cell) (k : Nat), firstBad (fun k x => if x ∈ g.Blocked then (14 : Int) else 0) l k = if l.any (fun x => decide (x ∈ g.Blocked)) = true then 14 else 0 := by
            intro l
            induction l with
            | nil => intro k; rfl
            | cons x r ih =>
              intro k
              unfold firstBad
              by_cases hb : x ∈ g.Blocked
              · rw [if_pos hb, if_pos (by decide), if_pos (by simp [hb])]
              · rw [if_neg hb, if_neg (by simp), ih]; simp [hb]
          rw [hfb]
          by_cases hb : l.any (fun x => decide (x ∈ g.Blocked)) = true
          · rw [if_pos hb] at h1 ⊢; rw [if_neg (by decide)]; exact h1 (by decide)
          · rw [if_neg hb] at h0 ⊢; rw [if_pos rfl]; simpa using h0 rfl
theorem findF_zero {g : Grid} {c : Costs} {l : List Cell} (h : findF g c l = 0) : GOk g ∧ COk c ∧ ∀ x ∈ l, inG g x = true ∧ x ∉ g.Blocked := by
  unfold findF at h
  split at h
  · rename_i e; exact absurd h e
  · rename_i e
    obtain ⟨hg, hc⟩ := bothF_zero (show bothF g c = 0 by simpa using e)
    split at h
    · exact absurd h (by decide)
    · rename_i e2
      split at h
      · exact absurd h (by decide)
      · rename_i e3
        refine ⟨hg, hc, fun x hx => ⟨?_, fun hb => e3 (List.any_eq_true.2 ⟨x, hx, by simpa using hb⟩)⟩⟩
        cases hq : inG g x with
        | true => rfl
        | false => exact absurd (List.any_eq_true.2 ⟨x, hx, by simp [hq]⟩) e2
/-- the words of a right grid with right costs -/
def grC (g : Grid) (c : Costs) : Gr := grOf ⟨g, c, noOf g⟩
theorem grC_N (g : Grid) (c : Costs) : (grC g c).N = (grG g).N := rfl
theorem goodF_of {g : Grid} {c : Costs} (hg : GOk g) (hc : COk c) : GoodF ⟨g, c, noOf g⟩ :=
  ⟨hg.sz.W, hg.sz.H, hg.sz.L, hg.N, by unfold noOf; simp; rfl, ⟨hc.step, hc.via, hc.turn, hc.agn⟩⟩
def leastQ (d : Int) : Int × Bool := if d < 0 then (0, false) else (d / kB, true)
theorem Wk.le {E : Nat → List (Nat × Int)} {S : List Nat} {N : Nat} {K : Int} (hE : GoodE E N K) (hS : ∀ s ∈ S, s < N) {s : Nat} {c : Int} {n : Nat} (h : Wk E S s c n) : s < N ∧ 0 ≤ c ∧ c ≤ n * K := by
  induction h with
  | start hs => exact ⟨hS _ hs, Int.le_refl _, by simp⟩
  | step w he ih =>
    obtain ⟨h1, h2, h3⟩ := ih
    obtain ⟨h4, h5, h6⟩ := (hE _ h1).2 _ he
    simp only at h4 h5 h6
    exact ⟨h4, by omega, by rw [show ∀ n : Nat, ((n + 1 : Nat) : Int) = (n : Int) + 1 from fun n => by omega, Int.add_mul]; omega⟩
theorem least_le {g : Grid} {c : Costs} (hg : GOk g) (hc : COk c) {back : Bool} {S : List Nat} (hS : ∀ s ∈ S, s < 3 * (grG g).N) {out : List Int} (h : Least ((grC g c).E back) S (3 * (grG g).N) out) {s : Nat} {d : Int} (hd : out[s]? = some d) (h0 : 0 ≤ d) :
    ∃ k n, Wk ((grC g c).E back) S s k n ∧ d = k * kB + n ∧ 0 ≤ k ∧ n < 120000 ∧ k ≤ 360000000 := by
  obtain ⟨k, n, w, e, p, b⟩ := h.way s d hd h0
  have hN := hg.N
  have hle := Wk.le ((goodF_of hg hc).ok.good back) hS w
  exact ⟨k, n, w, e, p, by omega, by have := hle.2.2; omega⟩
theorem S_Least {g : Grid} {c : Costs} {a b : Cell} {Q : Int → Bool → Int → Prop} (h1 : findF g c [a, b] ≠ 0 → Q 0 false (findF g c [a, b]))
    (h0 : findF g c [a, b] = 0 → ∀ out d, Least ((grC g c).E true) [3 * numN g b, 3 * numN g b + 1, 3 * numN g b + 2] (3 * (grG g).N) out → out[3 * numN g a]? = some d → Q (leastQ d).1 (leastQ d).2 0) : M_route_Least g c a b Q := by
  unfold M_route_Least
  refine S_find (fun e => ⟨fun _ => ?_, fun x hx => by cases hx⟩) (fun e => ⟨fun hx => (by cases hx), fun x hx => ?_⟩)
  · refine cnd_of (fun _ => h1 e) (fun e2 => absurd (by simpa using e2) e)
  · injection hx with hx; subst hx
    obtain ⟨hg, hc, hl⟩ := findF_zero e
    have ha := hl a (by simp)
    have hb := hl b (by simp)
    have hna := numN_lt hg.sz ha.1
    have hnb := numN_lt hg.sz hb.1
    have hN := hg.N
    show cnd false _ _
    simp only [cnd_false]
    refine S_number hg.sz hb.1 ?_
    refine S_to (goodF_of hg hc) hnb (fun out hout => ?_)
    refine S_number hg.sz ha.1 ?_
    rw [show w64 (3 * (numN g a : Int)) = ((3 * numN g a : Nat) : Int) by rw [w64_id] <;> omega]
    have hd : out[3 * numN g a]? = some (out[3 * numN g a]'(by have := hout.len; rw [this]; show _ < 3 * (grG g).N; omega)) := List.getElem?_eq_getElem _
    refine idx_nat hd ?_
    have := h0 e out _ hout hd
    generalize out[3 * numN g a]'_ = d at this hd ⊢
    unfold leastQ at this
    refine cnd_of (fun e2 => ?_) (fun e2 => ?_)
    · rw [if_pos (by simpa using e2)] at this; exact this
    · have e3 : ¬ d < 0 := by simpa using e2
      rw [if_neg e3] at this
      obtain ⟨k, n, _, hdk, hk0, hn, hk⟩ := least_le hg hc (fun s hs => by simp at hs; omega) hout hd (by omega)
      have hkB : kB = 1048576 := rfl
      rw [show w64 (d.tdiv 1048576) = d / kB by rw [Int.tdiv_eq_ediv_of_nonneg (by omega), hkB]; rw [hkB] at hdk; exact w64_id (by omega) (by omega)]
      exact this
end Go.Proofs.Ytihjaehkdgdenaa

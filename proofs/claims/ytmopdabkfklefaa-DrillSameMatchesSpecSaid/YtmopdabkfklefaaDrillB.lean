/- Chapter 8: what the ways come to, and that program and reference say the same. -/
import Derived.Test.YtmopdabkfklefaaDrillA
namespace Go.Proofs.Ytmopdabkfklefaa
open Go Go.RowKit
set_option linter.unusedVariables false

theorem apart_eq (a b : Int) : apart a b = rabs (w64 (a - b)) := by
  unfold apart rabs
  have : w64 (-(w64 (a - b))) = w64 (b - a) := by simp only [w64_eq]; omega
  rw [this]
theorem far_eq (p q : Point) : far p q = rdist p q := by unfold far rdist; rw [apart_eq, apart_eq]

theorem S_contains_notPoint {l : List Point} {Q : Bool → Prop} (h : Q (l.any notPoint)) : M_contains_notPoint l Q := by
  unfold M_contains_notPoint M_index_notPoint
  refine forIn0 (fun k _ => ∀ i x, i < k → l[i]? = some x → notPoint x = false) (fun i x h => by omega) (fun k x s hx hI next hn => ?_) (fun s hI => ?_)
  · refine cnd_of (fun e => ?_) (fun e => hn _ (fun i y hi hy => ?_))
    · have : l.any notPoint = true := List.any_eq_true.2 ⟨x, List.mem_of_getElem? hx, e⟩
      rw [this] at h
      simpa using h
    · rcases Nat.lt_or_ge i k with hlt | hge
      · exact hI i y hlt hy
      · have : i = k := by omega
        subst this; rw [hx] at hy; injection hy with hy; subst hy; exact e
  · have : l.any notPoint = false := by
      rw [List.any_eq_false]
      intro x hx
      obtain ⟨i, hi⟩ := List.getElem?_of_mem hx
      simpa using hI i x (lt_of_get hi) hi
    rw [this] at h
    simpa using h

/-- the error of points -/
def pointsFault (l : List Point) (fr : Point) (most : Int) : Int := if (l.length : Int) > most then 2 else if isPoint fr = false ∨ l.any notPoint = true then 1 else 0
theorem S_drill_checkPoints {l : List Point} {fr : Point} {most : Int} {Q : Int → Prop} (h : Q (pointsFault l fr most)) : M_drill_checkPoints l fr most Q := by
  unfold M_drill_checkPoints pointsFault at *
  refine cnd_of (fun e => ?_) (fun e => cnd_of (fun e2 => ?_) (fun e2 => S_contains_notPoint ?_))
  · simp at e; simpa [e] using h
  · simp at e e2; unfold M_drill_checkPoints_k1; simp [show ¬ most < l.length by omega, e2] at h; simpa using h
  · simp at e e2; unfold M_drill_checkPoints_k1
    generalize l.any notPoint = b at h ⊢
    cases b <;> simp [show ¬ most < l.length by omega, e2] at h ⊢ <;> exact h
theorem S_ref8_askPoints {l : List Point} {fr : Point} {most : Int} {Q : Int → Prop} (hm : most ≤ 1000000) (h : Q (pointsFault l fr most)) : M_ref8_askPoints l fr most Q := by
  unfold M_ref8_askPoints pointsFault at *
  refine cnd_of (fun e => ?_) (fun e => ⟨?_, ?_⟩)
  · simp at e; simpa [e] using h
  · simp at e; exact room_of (by simp; omega) (by omega)
  · simp at e
    simp only [show ¬ (l.length : Int) > most by omega, if_false] at h
    refine forIn0 (fun k _ => ∀ i x, i < k → ([fr] ++ l)[i]? = some x → isPoint x = true) (fun i x h => by omega) (fun k x s hx hI next hn => ?_) (fun s hI => ?_)
    · refine cnd_of (fun e => ?_) (fun e => hn _ (fun i y hi hy => ?_))
      · have hx' : x = fr ∨ x ∈ l := by simpa using List.mem_of_getElem? hx
        have : isPoint fr = false ∨ l.any notPoint = true := by
          rcases hx' with rfl | hm
          · left; simpa using e
          · right; exact List.any_eq_true.2 ⟨x, hm, e⟩
        rw [if_pos this] at h; exact h
      · rcases Nat.lt_or_ge i k with hlt | hge
        · exact hI i y hlt hy
        · have : i = k := by omega
          subst this; rw [hx] at hy; injection hy with hy; subst hy; simpa using e
    · have h1 : isPoint fr = true := hI 0 fr (by simp) (by simp)
      have h2 : l.any notPoint = false := by
        rw [List.any_eq_false]
        intro x hx
        obtain ⟨i, hi⟩ := List.getElem?_of_mem hx
        have := hI (i + 1) x (by have := lt_of_get hi; simp; omega) (by simpa using hi)
        simp [notPoint, this]
      rw [if_neg (by rw [h1, h2]; simp)] at h; exact h

/-! ### how far it goes -/
def wayTo (l : List Point) (fr : Point) : Int := (l.zipIdx.foldl (fun (s : Point × Int) p => (p.1, w64 (s.2 + far s.1 p.1))) (fr, 0)).2
theorem S_drill_way {l : List Point} {fr : Point} {Q : Int → Prop} (h : Q (wayTo l fr)) : M_drill_way l fr Q := by
  unfold M_drill_way
  exact forIn_run (fun k x s => (x, w64 (s.2 + far s.1 x))) (fun k x s next h => h) l 0 (fr, 0) h
theorem S_drill_Way {l : List Point} {fr : Point} {Q : Int → Int → Prop} (h : if pointsFault l fr 2000 = 0 then Q (wayTo l fr) 0 else Q 0 (pointsFault l fr 2000)) : M_drill_Way l fr Q := by
  unfold M_drill_Way
  refine S_drill_checkPoints (cnd_of (fun e => ?_) (fun e => S_drill_way ?_))
  · simp at e; simpa [e] using h
  · simp at e; simpa [e] using h
theorem S_ref8_Way {l : List Point} {fr : Point} {Q : Int → Int → Prop} (h : if pointsFault l fr 2000 = 0 then Q (wayTo l fr) 0 else Q 0 (pointsFault l fr 2000)) : M_ref8_Way l fr Q := by
  unfold M_ref8_Way
  refine S_ref8_askPoints (by decide) (cnd_of (fun e => ?_) (fun e => ?_))
  · simp at e; simpa [e] using h
  · simp at e
    refine forIn_run (fun k x s => (x, w64 (s.2 + far s.1 x))) (fun k x s next h => ?_) l 0 (fr, 0) ?_
    · rw [far_eq] at h; exact h
    · simpa [e, wayTo] using h

/-! ### the greedy order -/
def bestTo (l : List Point) (dn : List Bool) (fr : Point) : Nat → Int
  | 0 => -1
  | k + 1 => if dn.getD k true = false ∧ (bestTo l dn fr k < 0 ∨ far fr (l.getD k default) < far fr (l.getD (bestTo l dn fr k).toNat default)) then (k : Int) else bestTo l dn fr k
theorem bestTo_lt (l : List Point) (dn : List Bool) (fr : Point) : ∀ k, bestTo l dn fr k = -1 ∨ 0 ≤ bestTo l dn fr k ∧ bestTo l dn fr k < k ∧ dn.getD (bestTo l dn fr k).toNat true = false
  | 0 => .inl rfl
  | k + 1 => by
    unfold bestTo
    split
    · rename_i h; right; exact ⟨by omega, by omega, by simpa using h.1⟩
    · rcases bestTo_lt l dn fr k with h | ⟨h1, h2, h3⟩
      · exact .inl h
      · exact .inr ⟨h1, by omega, h3⟩
theorem bestTo_none (l : List Point) (dn : List Bool) (fr : Point) : ∀ k, bestTo l dn fr k = -1 → ∀ i, i < k → dn.getD i true = true
  | 0, _, i, hi => by omega
  | k + 1, h, i, hi => by
    unfold bestTo at h
    split at h
    · omega
    · rename_i hn
      rw [h] at hn
      have hk : dn.getD k true = true := by
        cases hb : dn.getD k true with
        | true => rfl
        | false => exact absurd ⟨hb, .inl (by omega)⟩ hn
      rcases Nat.lt_or_ge i k with hlt | hge
      · exact bestTo_none l dn fr k h i hlt
      · have : i = k := by omega
        subst this; exact hk
def runTo (l : List Point) (fr : Point) : Nat → List Int × List Bool × Point
  | 0 => ([], List.replicate l.length false, fr)
  | k + 1 =>
    let s := runTo l fr k
    let b := bestTo l s.2.1 s.2.2 l.length
    (s.1 ++ [b], s.2.1.set b.toNat true, l.getD b.toNat default)
def greedyOf (l : List Point) (fr : Point) : List Int := (runTo l fr l.length).1
theorem runTo_len (l : List Point) (fr : Point) : ∀ k, (runTo l fr k).1.length = k ∧ (runTo l fr k).2.1.length = l.length
  | 0 => by simp [runTo]
  | k + 1 => by have := runTo_len l fr k; simp [runTo, this.1, this.2]
theorem count_set (dn : List Bool) : ∀ (i : Nat), dn.getD i true = false → (dn.set i true).count false + 1 = dn.count false := by
  induction dn with
  | nil => intro i h; simp at h
  | cons b r ih =>
    intro i h
    cases i with
    | zero => simp at h; subst h; simp
    | succ i => simp at h ⊢; have := ih i (by simpa using h); cases b <;> simp [List.count_cons] <;> omega
theorem exists_of_count (dn : List Bool) (h : 0 < dn.count false) : ∃ i, i < dn.length ∧ dn.getD i true = false := by
  have := List.count_pos_iff.1 h
  obtain ⟨i, hi⟩ := List.getElem?_of_mem this
  exact ⟨i, lt_of_get hi, by rw [List.getD_eq_getElem?_getD, hi]; rfl⟩
theorem runTo_count (l : List Point) (fr : Point) : ∀ k, k ≤ l.length → (runTo l fr k).2.1.count false + k = l.length ∧ (k < l.length → 0 ≤ bestTo l (runTo l fr k).2.1 (runTo l fr k).2.2 l.length ∧ bestTo l (runTo l fr k).2.1 (runTo l fr k).2.2 l.length < l.length)
  | 0, _ => by
    refine ⟨by simp [runTo, List.count_replicate], fun hlt => ?_⟩
    rcases bestTo_lt l (runTo l fr 0).2.1 (runTo l fr 0).2.2 l.length with h | ⟨h1, h2, _⟩
    · have := bestTo_none _ _ _ _ h 0 hlt
      simp [runTo, hlt] at this
    · exact ⟨h1, h2⟩
  | k + 1, hk => by
    obtain ⟨h1, h2⟩ := runTo_count l fr k (by omega)
    obtain ⟨hb0, hb1⟩ := h2 (by omega)
    have hb := bestTo_lt l (runTo l fr k).2.1 (runTo l fr k).2.2 l.length
    have hc : (runTo l fr (k + 1)).2.1.count false + (k + 1) = l.length := by
      have := count_set (runTo l fr k).2.1 _ (hb.resolve_left (by omega)).2.2
      simp only [runTo]; omega
    refine ⟨hc, fun hlt => ?_⟩
    rcases bestTo_lt l (runTo l fr (k + 1)).2.1 (runTo l fr (k + 1)).2.2 l.length with h | ⟨h1, h2, _⟩
    · obtain ⟨i, hi, hd⟩ := exists_of_count (runTo l fr (k + 1)).2.1 (by omega)
      have := bestTo_none _ _ _ _ h i (by rw [← (runTo_len l fr (k + 1)).2]; exact hi)
      rw [hd] at this; cases this
    · exact ⟨h1, h2⟩

theorem inner_best {l : List Point} {dn : List Bool} {fr : Point} (hdn : dn.length = l.length) {body : Nat → Point → Int → (Int → Prop) → Prop} {done : Int → Prop}
    (hbody : ∀ k x s next, body k x s next ↔ idx dn (k : Int) fun b => cnd (!b) (cnd (decide (s < 0)) (next k) (idx l s fun y => cnd (decide (far fr x < far fr y)) (next k) (next s))) (next s))
    (h : done (bestTo l dn fr l.length)) : forIn' body done l 0 (-1) := by
  refine forIn0 (fun k s => s = bestTo l dn fr k) rfl (fun k x s hx hI next hn => ?_) (fun s hI => hI ▸ h)
  subst hI
  have hk : k < l.length := lt_of_get hx
  have hkd : dn[k]? = some (dn.getD k true) := by rw [List.getD_eq_getElem?_getD, List.getElem?_eq_getElem (by omega)]; rfl
  have hxk : l.getD k default = x := getD_of hx
  rw [hbody]
  refine idx_nat hkd (cnd_of (fun e => cnd_of (fun e2 => hn _ ?_) (fun e2 => ?_)) (fun e => hn _ ?_))
  · simp at e e2; simp only [bestTo]; rw [if_pos ⟨by simpa using e, .inl e2⟩]
  · simp at e e2
    have hlt := (bestTo_lt l dn fr k).resolve_left (by omega)
    refine idx_getD e2 (by omega) (cnd_of (fun e3 => hn _ ?_) (fun e3 => hn _ ?_))
    · simp at e3; simp only [bestTo]; rw [if_pos ⟨by simpa using e, .inr (by rw [hxk]; simpa using e3)⟩]
    · simp at e3; simp only [bestTo]; rw [if_neg (fun h => by rcases h.2 with h | h; omega; rw [hxk] at h; simp at h; omega)]
  · simp at e; simp only [bestTo]; rw [if_neg (fun h => by have := h.1; simp at this; rw [this] at e; cases e)]

theorem S_drill_greedy {l : List Point} {fr : Point} {Q : List Int → Prop} (hl : l.length ≤ 1000000) (h : Q (greedyOf l fr)) : M_drill_greedy l fr Q := by
  unfold M_drill_greedy
  refine ⟨⟨by omega, by omega⟩, forIn0 (fun k s => s = runTo l fr k) rfl (fun k x s hx hI next hn => ?_) (fun s hI => by subst hI; exact h)⟩
  subst hI
  have hk := lt_of_get hx
  obtain ⟨hb0, hb1⟩ := (runTo_count l fr k (by omega)).2 hk
  unfold M_drill_greedy_L1
  refine inner_best (fr := (runTo l fr k).2.2) (runTo_len l fr k).2 (fun k' x s next => ?_) ?_
  · unfold M_drill_greedy_L2 M_drill_greedy_k3
    simp only [cnd_true, cnd_false]
  · have hset : ((runTo l fr k).2.1)[(bestTo l (runTo l fr k).2.1 (runTo l fr k).2.2 l.length).toNat]?.isSome := by
      rw [List.getElem?_eq_getElem (by rw [(runTo_len l fr k).2]; omega)]; rfl
    obtain ⟨b, hb⟩ := Option.isSome_iff_exists.1 hset
    refine idx_of hb0 hb (idx_getD hb0 hb1 ⟨room_of ?_ (by omega), hn _ rfl⟩)
    rw [List.length_append, (runTo_len l fr k).1]; simp; omega
theorem S_ref8_greedy {l : List Point} {fr : Point} {Q : List Int → Prop} (hl : l.length ≤ 1000000) (h : Q (greedyOf l fr)) : M_ref8_greedy l fr Q := by
  unfold M_ref8_greedy
  refine ⟨⟨by omega, by omega⟩, forIn0 (fun k s => s = runTo l fr k) rfl (fun k x s hx hI next hn => ?_) (fun s hI => by subst hI; exact h)⟩
  subst hI
  have hk := lt_of_get hx
  obtain ⟨hb0, hb1⟩ := (runTo_count l fr k (by omega)).2 hk
  unfold M_ref8_greedy_L1
  refine inner_best (fr := (runTo l fr k).2.2) (runTo_len l fr k).2 (fun k' x s next => ?_) ?_
  · unfold M_ref8_greedy_L2 M_ref8_greedy_k3
    simp only [cnd_true, cnd_false, far_eq]
  · have hset : ((runTo l fr k).2.1)[(bestTo l (runTo l fr k).2.1 (runTo l fr k).2.2 l.length).toNat]?.isSome := by
      rw [List.getElem?_eq_getElem (by rw [(runTo_len l fr k).2]; omega)]; rfl
    obtain ⟨b, hb⟩ := Option.isSome_iff_exists.1 hset
    refine idx_getD hb0 hb1 (idx_of hb0 hb ⟨room_of ?_ (by omega), hn _ rfl⟩)
    rw [List.length_append, (runTo_len l fr k).1]; simp; omega

theorem fault_len {l : List Point} {fr : Point} {most : Int} (h : pointsFault l fr most = 0) : (l.length : Int) ≤ most := by
  unfold pointsFault at h
  split at h
  · omega
  · omega
theorem S_drill_Greedy {l : List Point} {fr : Point} {Q : List Int → Int → Prop} (h : if pointsFault l fr 200 = 0 then Q (greedyOf l fr) 0 else Q [] (pointsFault l fr 200)) : M_drill_Greedy l fr Q := by
  unfold M_drill_Greedy
  refine S_drill_checkPoints (cnd_of (fun e => ?_) (fun e => S_drill_greedy ?_ ?_))
  · simp at e; simpa [e] using h
  · simp at e; have := fault_len e; omega
  · simp at e; simpa [e] using h
theorem S_ref8_Greedy {l : List Point} {fr : Point} {Q : List Int → Int → Prop} (h : if pointsFault l fr 200 = 0 then Q (greedyOf l fr) 0 else Q [] (pointsFault l fr 200)) : M_ref8_Greedy l fr Q := by
  unfold M_ref8_Greedy
  refine S_ref8_askPoints (by decide) (cnd_of (fun e => ?_) (fun e => S_ref8_greedy ?_ ?_))
  · simp at e; simpa [e] using h
  · simp at e; have := fault_len e; omega
  · simp at e; simpa [e] using h

theorem S_equal_int {xs ys : List Int} {Q : Bool → Prop} (h : Q (decide (xs = ys))) : M_equal_int xs ys Q := by
  unfold M_equal_int
  refine cnd_of (fun e => ?_) (fun e => ?_)
  · simp at e
    have hne : xs ≠ ys := fun he => e (by rw [he])
    simpa [hne] using h
  · simp at e
    refine forIn0 (fun k _ => ∀ i, i < k → xs[i]? = ys[i]?) (fun i h => by omega) (fun k x s hx hI next hn => ?_) (fun s hI => ?_)
    · have hk := lt_of_get hx
      refine idx_nat (List.getElem?_eq_getElem (by omega)) (cnd_of (fun e2 => ?_) (fun e2 => hn _ (fun i hi => ?_)))
      · have hne : xs ≠ ys := fun he => by subst he; rw [List.getElem?_eq_getElem hk] at hx; injection hx with hx; simp [hx] at e2
        simpa [hne] using h
      · rcases Nat.lt_or_ge i k with hlt | hge
        · exact hI i hlt
        · have : i = k := by omega
          subst this
          simp at e2
          rw [hx, e2, List.getElem?_eq_getElem]
    · have he : xs = ys := by
        apply List.ext_getElem?
        intro i
        rcases Nat.lt_or_ge i xs.length with hlt | hge
        · exact hI i hlt
        · rw [List.getElem?_eq_none hge, List.getElem?_eq_none (by omega)]
      simpa [he] using h

theorem S_awake {Q : Bool → Prop} (h : Q true) : M_awake Q := by
  unfold M_awake
  refine S_drill_Way ?_
  have h1 : pointsFault [⟨5, 0⟩, ⟨1, 0⟩, ⟨2, 3⟩] ⟨0, 0⟩ 2000 = 0 := by decide
  have h2 : wayTo [⟨5, 0⟩, ⟨1, 0⟩, ⟨2, 3⟩] ⟨0, 0⟩ = 12 := by decide
  rw [if_pos h1, h2]
  simpa using h

theorem law_Ways_true (l : List Point) (fr : Point) : M_law_Ways l fr (· = true) := by
  unfold M_law_Ways
  refine S_drill_Way ?_
  have key : ∀ n f : Int, M_ref8_Way l fr (fun y3 y4 => cnd (f != y4) (M_law_Ways_k1 l fr (· = true) true) (M_law_Ways_k1 l fr (· = true) (n != y3))) ↔ M_ref8_Way l fr (fun y3 y4 => cnd (f != y4) (M_law_Ways_k1 l fr (· = true) true) (M_law_Ways_k1 l fr (· = true) (n != y3))) := fun _ _ => Iff.rfl
  have hk : M_law_Ways_k1 l fr (· = true) false := by
    unfold M_law_Ways_k1
    rw [cnd_false]
    refine S_drill_Greedy ?_
    split
    · rename_i e
      refine S_ref8_Greedy ?_
      rw [if_pos e]
      simp only [beq_self_eq_true, cnd_true]
      exact S_equal_int (by simp; exact S_awake rfl)
    · rename_i e
      refine S_ref8_Greedy ?_
      rw [if_neg e]
      simp only [beq_self_eq_true, cnd_true]
      exact S_equal_int (by simp; exact S_awake rfl)
  split
  · rename_i e
    refine S_ref8_Way ?_
    rw [if_pos e]
    simpa using hk
  · rename_i e
    refine S_ref8_Way ?_
    rw [if_neg e]
    simpa using hk
end Go.Proofs.Ytmopdabkfklefaa

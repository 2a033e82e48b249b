/- Chapter 8: jobs that are the same: plain. -/
import Derived.Test.YtmopdabkfklefaaDrillU
namespace Go.Proofs.Ytmopdabkfklefaa
open Go Go.RowKit
set_option linter.unusedVariables false

/-- after k swaps of n elements from lo on -/
def swapped {α : Type} (xs : List α) (lo n k p : Nat) : Option α := if lo ≤ p ∧ p < lo + n ∧ (p - lo < k ∨ n - 1 - (p - lo) < k) then xs[lo + (n - 1 - (p - lo))]? else xs[p]?
theorem rev_loop {α : Type} {xs : List α} {lo n : Nat} (hn : lo + n ≤ xs.length) (hlen : xs.length ≤ 9223372036854775807) {F : (List α × Int × Int → Prop) → List α × Int × Int → Prop} {Q : List α → Prop}
    (hF : ∀ X (l : List α) (i j : Nat), l.length = xs.length → i < j → j < n → (∀ x1 x2, l[lo + j]? = some x1 → l[lo + i]? = some x2 → X ((l.set (lo + i) x1).set (lo + j) x2, ((i + 1 : Nat) : Int), ((j - 1 : Nat) : Int))) → F X (l, (i : Int), (j : Int)))
    (hQ : ∀ X (l : List α) (i j : Int), l.length = xs.length → ¬ i < j → Q l → F X (l, i, j))
    (h : Q (xs.take lo ++ ((xs.drop lo).take n).reverse ++ xs.drop (lo + n))) : lp F (xs, 0, (n : Int) - 1) := by
  refine lp_intro (fun s => s.1.length = xs.length ∧ ∃ k : Nat, s.2.1 = (k : Int) ∧ s.2.2 = (n : Int) - 1 - k ∧ (2 * k ≤ n + 1) ∧ ∀ p, s.1[p]? = swapped xs lo n k p) (fun s => (s.2.2 - s.2.1 + 1).toNat) ⟨rfl, 0, rfl, by simp, by omega, fun p => by unfold swapped; rw [if_neg (by omega)]⟩ ?_
  rintro X ⟨l, i, j⟩ ⟨hl, k, hi, hj, hk, hp⟩ hX
  dsimp only at hl hi hj hp hX
  subst hi hj
  by_cases hlt : (k : Int) < (n : Int) - 1 - k
  · have e : (n : Int) - 1 - k = ((n - 1 - k : Nat) : Int) := by omega
    rw [e] at hX ⊢
    refine hF X l k (n - 1 - k) hl (by omega) (by omega) (fun x1 x2 h1 h2 => hX _ ⟨by simp [hl], k + 1, rfl, by show ((n - 1 - k - 1 : Nat) : Int) = _; omega, by omega, fun p => ?_⟩ (by simp only; omega))
    rw [hp] at h1 h2
    have g1 : xs[lo + (n - 1 - k)]? = some x1 := by unfold swapped at h1; rw [if_neg (by omega)] at h1; exact h1
    have g2 : xs[lo + k]? = some x2 := by unfold swapped at h2; rw [if_neg (by omega)] at h2; exact h2
    rw [List.getElem?_set, List.getElem?_set, hp]
    unfold swapped
    by_cases c1 : lo + (n - 1 - k) = p
    · subst c1
      rw [if_pos rfl, if_pos (by simp [hl]; omega), if_pos (by omega), ← g2]
      congr 1; omega
    · rw [if_neg c1]
      by_cases c2 : lo + k = p
      · subst c2
        rw [if_pos rfl, if_pos (by omega), if_pos (by omega), ← g1]
        congr 1; omega
      · rw [if_neg c2]
        by_cases c3 : lo ≤ p ∧ p < lo + n ∧ (p - lo < k ∨ n - 1 - (p - lo) < k)
        · rw [if_pos c3, if_pos (by omega)]
        · rw [if_neg c3, if_neg (by omega)]
  · refine hQ X l _ _ hl hlt ?_
    have : l = xs.take lo ++ ((xs.drop lo).take n).reverse ++ xs.drop (lo + n) := by
      apply List.ext_getElem?
      intro p
      rw [hp]
      unfold swapped
      have hrl : ((xs.drop lo).take n).reverse.length = n := by simp; omega
      have htl : (xs.take lo).length = lo := by simp; omega
      rcases Nat.lt_or_ge p lo with c | c
      · rw [if_neg (by omega), List.getElem?_append_left (by simp; omega), List.getElem?_append_left (by omega), List.getElem?_take, if_pos c]
      · rcases Nat.lt_or_ge p (lo + n) with c2 | c2
        · have hm : ((xs.drop lo).take n).length = n := by simp; omega
          have hr : (xs.take lo ++ ((xs.drop lo).take n).reverse ++ xs.drop (lo + n))[p]? = xs[lo + (n - 1 - (p - lo))]? := by
            rw [List.getElem?_append_left (by simp only [List.length_append, hrl, htl]; omega), List.getElem?_append_right (by omega), htl, List.getElem?_reverse (by rw [hm]; omega), hm, List.getElem?_take, if_pos (by omega), List.getElem?_drop]
          rw [hr]
          by_cases c3 : p - lo < k ∨ n - 1 - (p - lo) < k
          · rw [if_pos ⟨c, c2, c3⟩]
          · rw [if_neg (fun e => c3 e.2.2)]
            congr 1; omega
        · rw [if_neg (by omega), List.getElem?_append_right (by simp only [List.length_append, hrl, htl]; omega), List.getElem?_drop]
          simp only [List.length_append, hrl, htl]
          congr 1; omega
    rw [this]; exact h
/-- a copy -/
theorem clone_step {α : Type} {xs : List α} {b : Nat} (hr : room xs.length b) {Q : List α → Prop} (h : Q xs) : nilq xs fun b1 => cnd b1 (Q ([] : List α)) (must (room (([] : List α) ++ xs).length b) (Q (([] : List α) ++ xs))) := by
  intro b1 hb
  cases b1
  · rw [cnd_false]; exact ⟨hr, h⟩
  · rw [cnd_true, ← hb rfl]; exact h

/-! ### how often something is in a list -/
def cntP {α : Type} [DecidableEq α] (p : α) : List α → Nat
  | [] => 0
  | x :: r => (if x = p then 1 else 0) + cntP p r
theorem cntP_append {α : Type} [DecidableEq α] (p : α) : ∀ (l r : List α), cntP p (l ++ r) = cntP p l + cntP p r
  | [], r => by simp [cntP]
  | x :: l, r => by rw [List.cons_append, cntP, cntP, cntP_append p l r]; omega
theorem cntP_le {α : Type} [DecidableEq α] (p : α) : ∀ l : List α, cntP p l ≤ l.length
  | [] => Nat.le_refl _
  | x :: l => by have := cntP_le p l; rw [cntP, List.length_cons]; split <;> omega
theorem cntP_perm {α : Type} [DecidableEq α] (p : α) {l r : List α} (h : l.Perm r) : cntP p l = cntP p r := by
  induction h with
  | nil => rfl
  | cons x _ ih => rw [cntP, cntP, ih]
  | swap x y l => rw [cntP, cntP, cntP, cntP]; omega
  | trans _ _ h1 h2 => exact h1.trans h2
theorem cntP_pos {α : Type} [DecidableEq α] {p : α} : ∀ {l : List α}, p ∈ l ↔ 0 < cntP p l
  | [] => by simp [cntP]
  | x :: l => by
    have ih := cntP_pos (p := p) (l := l)
    rw [List.mem_cons, cntP]
    by_cases e : x = p
    · simp [e]; omega
    · rw [if_neg e, Nat.zero_add, ← ih]
      constructor
      · rintro (h | h)
        · exact absurd h.symm e
        · exact h
      · exact .inr
theorem perm_of_cnt {α : Type} [DecidableEq α] : ∀ (xs ys : List α), (∀ x ∈ xs, cntP x xs ≤ cntP x ys) → xs.length = ys.length → xs.Perm ys
  | [], ys, _, hl => by
    have : ys = [] := List.eq_nil_of_length_eq_zero (by simpa using hl.symm)
    rw [this]
  | x :: r, ys, h, hl => by
    have hx : x ∈ ys := cntP_pos.2 (by
      have := h x (List.mem_cons_self ..)
      rw [cntP, if_pos rfl] at this; omega)
    have hp := List.perm_cons_erase hx
    refine List.Perm.trans (List.Perm.cons x (perm_of_cnt r (ys.erase x) (fun z hz => ?_) ?_)) hp.symm
    · have h1 := h z (List.mem_cons_of_mem _ hz)
      have h2 := cntP_perm z hp
      rw [h2, cntP, cntP] at h1
      omega
    · have := hp.length_eq
      simp at this hl; omega
theorem perm_iff_cnt {α : Type} [DecidableEq α] (xs ys : List α) : xs.Perm ys ↔ ∀ x, cntP x xs = cntP x ys := by
  refine ⟨fun h x => cntP_perm x h, fun h => ?_⟩
  have key : ∀ (xs ys : List α), (∀ x, cntP x xs = cntP x ys) → xs.length ≤ ys.length := by
    intro xs
    induction xs with
    | nil => intro ys _; simp
    | cons x r ih =>
      intro ys h
      have hx : x ∈ ys := cntP_pos.2 (by
        have := h x
        rw [cntP, if_pos rfl] at this; omega)
      have hp := List.perm_cons_erase hx
      have := ih (ys.erase x) (fun z => by
        have h1 := h z
        rw [cntP_perm z hp, cntP, cntP] at h1
        omega)
      have h2 := hp.length_eq
      simp at h2 ⊢; omega
  exact perm_of_cnt xs ys (fun x _ => Nat.le_of_eq (h x)) (Nat.le_antisymm (key xs ys h) (key ys xs (fun x => (h x).symm)))
theorem cntP_map {α β : Type} [DecidableEq α] [DecidableEq β] (f : α → β) (hf : ∀ x y, f x = f y → x = y) (p : α) : ∀ l : List α, cntP (f p) (l.map f) = cntP p l
  | [] => rfl
  | x :: l => by
    rw [List.map_cons, cntP, cntP, cntP_map f hf p l]
    by_cases e : x = p
    · rw [if_pos e, if_pos (by rw [e])]
    · rw [if_neg e, if_neg (fun h => e (hf _ _ h))]
theorem cntP_none {α : Type} [DecidableEq α] {p : α} {l : List α} (h : p ∉ l) : cntP p l = 0 := by
  rcases Nat.eq_zero_or_pos (cntP p l) with h1 | h1
  · exact h1
  · exact absurd (cntP_pos.2 h1) h

/-! ### what jobs drill -/
def jobPairs (x : Job) : List DrillDrilled := x.Holes.map (fun h => ⟨x.Tool, h⟩)
def jobsPairs (j : List Job) : List DrillDrilled := j.flatMap jobPairs
def holesBy (j : List Job) (tool : Str) : List Hole := (j.filter (fun x => x.Tool == tool)).flatMap (·.Holes)
def SameB (a b : List Job) : Prop := ∀ p, cntP p (jobsPairs a) = cntP p (jobsPairs b)
theorem cnt_job (x : Job) (T : Str) (h : Hole) : cntP (⟨T, h⟩ : DrillDrilled) (jobPairs x) = if x.Tool = T then cntP h x.Holes else 0 := by
  split
  · rename_i e
    subst e
    exact cntP_map (fun h => (⟨x.Tool, h⟩ : DrillDrilled)) (fun a b e => by injection e) h x.Holes
  · rename_i e
    refine cntP_none (fun hm => ?_)
    obtain ⟨y, _, hy⟩ := List.mem_map.1 hm
    injection hy with h1 _
    exact e h1
theorem cnt_pairs (T : Str) (h : Hole) : ∀ j : List Job, cntP (⟨T, h⟩ : DrillDrilled) (jobsPairs j) = cntP h (holesBy j T)
  | [] => rfl
  | x :: j => by
    have ih := cnt_pairs T h j
    unfold jobsPairs holesBy at ih ⊢
    rw [List.flatMap_cons, cntP_append, cnt_job, ih, List.filter_cons]
    by_cases e : x.Tool = T
    · rw [if_pos e, if_pos (by simpa using e), List.flatMap_cons, cntP_append]
    · rw [if_neg e, if_neg (by simpa using e), Nat.zero_add]
theorem pairs_len (j : List Job) : (jobsPairs j).length = (holesTo j j.length).length := by
  unfold jobsPairs holesTo
  rw [List.take_length]
  induction j with
  | nil => rfl
  | cons x j ih => simp only [List.flatMap_cons, List.length_append, ih, jobPairs, List.length_map]
theorem holesBy_len (j : List Job) (T : Str) : (holesBy j T).length ≤ (holesTo j j.length).length := by
  unfold holesBy holesTo
  rw [List.take_length]
  induction j with
  | nil => exact Nat.le_refl _
  | cons x j ih =>
    rw [List.filter_cons]
    split <;> simp only [List.flatMap_cons, List.length_append] <;> omega
theorem sameB_iff {t : List Bit} {a b : List Job} (ha : ∀ x ∈ a, ∃ y ∈ t, y.Name = x.Tool) (hb : ∀ x ∈ b, ∃ y ∈ t, y.Name = x.Tool) : SameB a b ↔ ∀ y ∈ t, (holesBy a y.Name).Perm (holesBy b y.Name) := by
  constructor
  · intro h y _
    rw [perm_iff_cnt]
    intro h1
    rw [← cnt_pairs, ← cnt_pairs]; exact h _
  · rintro h ⟨T, q⟩
    rw [cnt_pairs, cnt_pairs]
    by_cases e : ∃ y ∈ t, y.Name = T
    · obtain ⟨y, hy, rfl⟩ := e
      exact cntP_perm q (h y hy)
    · have none : ∀ j : List Job, (∀ x ∈ j, ∃ y ∈ t, y.Name = x.Tool) → holesBy j T = [] := by
        intro j hj
        unfold holesBy
        have : j.filter (fun x => x.Tool == T) = [] := by
          rw [List.filter_eq_nil_iff]
          intro x hx hT
          obtain ⟨y, hy, hn⟩ := hj x hx
          exact e ⟨y, hy, hn.trans (by simpa using hT)⟩
        rw [this]; rfl
      rw [none a ha, none b hb]
theorem jobs_tools {t : List Bit} {j : List Job} (h : jobsFault t j = 0) : ∀ x ∈ j, ∃ y ∈ t, y.Name = x.Tool := fun x hx => by
  obtain ⟨i, hi⟩ := List.getElem?_of_mem hx
  obtain ⟨_, _, b, hb⟩ := jobBad_len ((jobs_ok h).2.2.1 i x hi)
  exact ⟨b, findTool_mem hb⟩

/-! ### the map of what is drilled -/
def valOf (m : List (DrillDrilled × Int)) (p : DrillDrilled) : Int := (mget m p).getD 0
def bump (c : Int) (m : List (DrillDrilled × Int)) (p : DrillDrilled) : List (DrillDrilled × Int) := mput m p (w64 (valOf m p + c))
def bumps (c : Int) (m : List (DrillDrilled × Int)) (l : List DrillDrilled) : List (DrillDrilled × Int) := l.foldl (bump c) m
theorem keysD_put {K V : Type} [DecidableEq K] (k : K) (v : V) (x : K) : ∀ (m : List (K × V)), x ∈ (mput m k v).map (·.1) → x = k ∨ x ∈ m.map (·.1)
  | [], h => by simp [mput] at h; exact .inl h
  | p :: r, h => by
    unfold mput at h
    split at h
    · rename_i e
      simp only [List.map_cons, List.mem_cons] at h ⊢
      rcases h with h | h
      · exact .inl h
      · exact .inr (.inr h)
    · simp only [List.map_cons, List.mem_cons] at h ⊢
      rcases h with h | h
      · exact .inr (.inl h)
      · rcases keysD_put k v x r h with h | h
        · exact .inl h
        · exact .inr (.inr h)
theorem nodupD_put {K V : Type} [DecidableEq K] (k : K) (v : V) : ∀ (m : List (K × V)), (m.map (·.1)).Nodup → ((mput m k v).map (·.1)).Nodup
  | [], _ => by simp [mput]
  | p :: r, h => by
    rw [List.map_cons, List.nodup_cons] at h
    unfold mput
    split
    · rename_i e
      rw [List.map_cons, List.nodup_cons]
      exact ⟨by rw [← e]; exact h.1, h.2⟩
    · rename_i e
      rw [List.map_cons, List.nodup_cons]
      refine ⟨fun hm => ?_, nodupD_put k v r h.2⟩
      rcases keysD_put k v p.1 r hm with hm | hm
      · exact e hm
      · exact h.1 hm
theorem mgetD_iff {K V : Type} [DecidableEq K] (k : K) (v : V) : ∀ (m : List (K × V)), (m.map (·.1)).Nodup → (mget m k = some v ↔ (k, v) ∈ m)
  | [], _ => by simp [mget]
  | p :: r, h => by
    rw [List.map_cons, List.nodup_cons] at h
    have ih := mgetD_iff k v r h.2
    unfold mget at ih ⊢
    rw [List.find?_cons]
    by_cases e : p.1 = k
    · simp only [e, decide_true, Option.map_some, Option.some.injEq, List.mem_cons]
      constructor
      · intro hv; exact .inl (by rw [← e, ← hv])
      · rintro (hv | hv)
        · rw [← hv]
        · exact absurd (List.mem_map.2 ⟨(k, v), hv, rfl⟩) (by rw [← e]; exact h.1)
    · simp only [e, decide_false, List.mem_cons]
      rw [ih]
      constructor
      · exact .inr
      · rintro (hv | hv)
        · exact absurd (by rw [← hv]) e
        · exact hv
theorem valOf_bump (c : Int) (m : List (DrillDrilled × Int)) (p q : DrillDrilled) : valOf (bump c m p) q = if p = q then w64 (valOf m p + c) else valOf m q := by
  unfold valOf bump
  rw [mget_put]
  split <;> rfl
theorem bumps_val {c : Int} (hc : -1 ≤ c ∧ c ≤ 1) : ∀ (l : List DrillDrilled) (m : List (DrillDrilled × Int)) (B : Int), 0 ≤ B → B + l.length ≤ 1000000 → (∀ q, -B ≤ valOf m q ∧ valOf m q ≤ B) → ∀ q, valOf (bumps c m l) q = valOf m q + c * (cntP q l : Int)
  | [], m, B, _, _, _, q => by simp [bumps, cntP]
  | p :: l, m, B, h0, hB, hm, q => by
    simp only [List.length_cons] at hB
    have hp := hm p
    have hw : w64 (valOf m p + c) = valOf m p + c := w64_id (by omega) (by omega)
    have ih := bumps_val hc l (bump c m p) (B + 1) (by omega) (by omega) (fun r => by
      rw [valOf_bump]
      have := hm r
      split
      · rw [hw]; omega
      · omega) q
    show valOf (bumps c (bump c m p) l) q = _
    rw [ih, valOf_bump, cntP]
    split
    · rename_i e
      subst e
      rw [hw]
      simp only [Int.natCast_add, Int.natCast_one, Int.mul_add, Int.mul_one]
      omega
    · simp
theorem bumps_keys (c : Int) : ∀ (l : List DrillDrilled) (m : List (DrillDrilled × Int)), (m.map (·.1)).Nodup → ((bumps c m l).map (·.1)).Nodup
  | [], m, h => h
  | p :: l, m, h => bumps_keys c l (bump c m p) (nodupD_put _ _ _ h)
theorem bumps_append (c : Int) (m : List (DrillDrilled × Int)) (l r : List DrillDrilled) : bumps c m (l ++ r) = bumps c (bumps c m l) r := by
  unfold bumps; rw [List.foldl_append]
theorem S_drill_Same_L3 {k1 : Nat} {x : Job} {m : List (DrillDrilled × Int)} {k3 : Nat} {next : List (DrillDrilled × Int) → Prop} (h : next (bumps (w64 (1 - w64 (2 * (k1 : Int)))) m (jobPairs x))) : M_drill_Same_L3 k1 k3 x m next := by
  unfold M_drill_Same_L3
  have key : ∀ (l : List Hole) (k : Nat) (m : List (DrillDrilled × Int)), next (bumps (w64 (1 - w64 (2 * (k1 : Int)))) m (l.map (fun h => ⟨x.Tool, h⟩))) →
      forIn' (fun k y (s : List (DrillDrilled × Int)) nx => M_drill_Same_L4 k1 x k y s (fun m8 => nx m8)) (fun (s : List (DrillDrilled × Int)) => (fun (m6 : List (DrillDrilled × Int)) => next m6) s) l k m := by
    intro l
    induction l with
    | nil => intro k m h; exact h
    | cons y l ih =>
      intro k m h
      show M_drill_Same_L4 k1 x k y m _
      unfold M_drill_Same_L4
      exact ih (k + 1) _ h
  exact key x.Holes 0 m h
theorem S_drill_Same_L1 {k1 : Nat} {j : List Job} {m : List (DrillDrilled × Int)} {next : List (DrillDrilled × Int) → Prop} (h : next (bumps (w64 (1 - w64 (2 * (k1 : Int)))) m (jobsPairs j))) : M_drill_Same_L1 k1 j m next := by
  unfold M_drill_Same_L1
  have key : ∀ (l : List Job) (k : Nat) (m : List (DrillDrilled × Int)), next (bumps (w64 (1 - w64 (2 * (k1 : Int)))) m (jobsPairs l)) →
      forIn' (fun k y (s : List (DrillDrilled × Int)) nx => M_drill_Same_L3 k1 k y s (fun m6 => nx m6)) (fun (s : List (DrillDrilled × Int)) => (fun (m2 : List (DrillDrilled × Int)) => next m2) s) l k m := by
    intro l
    induction l with
    | nil => intro k m h; exact h
    | cons y l ih =>
      intro k m h
      refine S_drill_Same_L3 (k3 := k) (ih (k + 1) _ ?_)
      rw [show jobsPairs (y :: l) = jobPairs y ++ jobsPairs l from rfl, bumps_append] at h
      exact h
  exact key j 0 m h
theorem same_scan {Q : Bool → Int → Prop} {m : List (DrillDrilled × Int)} (h : if (∀ e ∈ m, e.2 = 0) then Q true 0 else Q false 0) : lp (fun again (s : List (DrillDrilled × Int)) => M_drill_Same_L2 Q (fun m4 => again m4) s) m := by
  have key : ∀ (n : Nat) (left : List (DrillDrilled × Int)), left.length = n → (if (∀ e ∈ left, e.2 = 0) then Q true 0 else Q false 0) → iterF (fun again (s : List (DrillDrilled × Int)) => M_drill_Same_L2 Q (fun m4 => again m4) s) (n + 1) left := by
    intro n
    induction n with
    | zero =>
      intro left hn h
      have hl0 : left = [] := List.eq_nil_of_length_eq_zero hn
      subst hl0
      show nextq _ _ _
      refine ⟨fun _ => by simpa using h, fun y rest hy => ?_⟩
      have := hy.length_eq; simp at this
    | succ n ih =>
      intro left hn h
      show nextq _ _ _
      refine ⟨fun e => by rw [e] at hn; simp at hn, fun y rest hy => ?_⟩
      have hlen := hy.length_eq
      have hnr : rest.length = n := by simp at hlen; omega
      have hall : (∀ e ∈ left, e.2 = 0) ↔ y.2 = 0 ∧ ∀ e ∈ rest, e.2 = 0 := by
        constructor
        · intro ha
          exact ⟨ha y (hy.mem_iff.2 (List.mem_cons_self ..)), fun e he => ha e (hy.mem_iff.2 (List.mem_cons_of_mem _ he))⟩
        · rintro ⟨h1, h2⟩ e he
          rcases List.mem_cons.1 (hy.mem_iff.1 he) with rfl | he
          · exact h1
          · exact h2 e he
      refine cnd_of (fun e => ?_) (fun e => ?_)
      · rw [if_neg (fun ha => by have := (hall.1 ha).1; simp [this] at e)] at h
        exact h
      · refine ih rest hnr ?_
        have e0 : y.2 = 0 := by simpa using e
        by_cases c : ∀ e ∈ rest, e.2 = 0
        · rw [if_pos c]; rw [if_pos (hall.2 ⟨e0, c⟩)] at h; exact h
        · rw [if_neg c]; rw [if_neg (fun ha => c (hall.1 ha).2)] at h; exact h
  exact ⟨_, key m.length m rfl h⟩
theorem S_drill_Same {t : List Bit} {a b : List Job} (ht : Fits.fits t) {Q : Bool → Int → Prop} (h1 : jobsFault t a ≠ 0 → Q false (jobsFault t a)) (h2 : jobsFault t a = 0 → jobsFault t b ≠ 0 → Q false (jobsFault t b))
    (h3 : jobsFault t a = 0 → jobsFault t b = 0 → SameB a b → Q true 0) (h4 : jobsFault t a = 0 → jobsFault t b = 0 → ¬ SameB a b → Q false 0) : M_drill_Same t a b Q := by
  unfold M_drill_Same
  refine S_drill_CheckJobs ht (cnd_of (fun e => h1 (by simpa using e)) (fun e => S_drill_CheckJobs ht (cnd_of (fun e2 => h2 (by simpa using e) (by simpa using e2)) (fun e2 => ?_))))
  have ha : jobsFault t a = 0 := by simpa using e
  have hb : jobsFault t b = 0 := by simpa using e2
  show M_drill_Same_L1 _ _ _ _
  refine S_drill_Same_L1 ?_
  show M_drill_Same_L1 _ _ _ _
  refine S_drill_Same_L1 ?_
  show lp _ _
  have c0 : w64 (1 - w64 (2 * ((0 : Nat) : Int))) = 1 := by decide
  have c1 : w64 (1 - w64 (2 * ((0 + 1 : Nat) : Int))) = -1 := by decide
  rw [c0, c1]
  have la := (jobs_ok ha).2.2.2
  have lb := (jobs_ok hb).2.2.2
  rw [← pairs_len] at la lb
  have v0 : ∀ q, valOf ([] : List (DrillDrilled × Int)) q = 0 := fun q => rfl
  have v1 : ∀ q, valOf (bumps 1 [] (jobsPairs a)) q = (cntP q (jobsPairs a) : Int) := fun q => by
    rw [bumps_val ⟨by omega, by omega⟩ _ _ 0 (by omega) (by omega) (fun q => by rw [v0]; omega), v0]; omega
  have v2 : ∀ q, valOf (bumps (-1) (bumps 1 [] (jobsPairs a)) (jobsPairs b)) q = (cntP q (jobsPairs a) : Int) - (cntP q (jobsPairs b) : Int) := fun q => by
    rw [bumps_val ⟨by omega, by omega⟩ _ _ 2000 (by omega) (by omega) (fun q => by rw [v1]; have := cntP_le q (jobsPairs a); omega), v1]; omega
  have hnd := bumps_keys (-1) (jobsPairs b) _ (bumps_keys 1 (jobsPairs a) [] List.nodup_nil)
  have hiff : (∀ e ∈ bumps (-1) (bumps 1 [] (jobsPairs a)) (jobsPairs b), e.2 = 0) ↔ SameB a b := by
    constructor
    · intro hz q
      have := v2 q
      unfold valOf at this
      cases hg : mget (bumps (-1) (bumps 1 [] (jobsPairs a)) (jobsPairs b)) q with
      | none =>
        rw [hg] at this
        have t2 : (0 : Int) = _ := this
        omega
      | some v =>
        have hm := (mgetD_iff q v _ hnd).1 hg
        have hz2 : v = 0 := hz _ hm
        rw [hg] at this
        have t2 : v = _ := this
        omega
    · rintro hs ⟨q, v⟩ he
      have hg := (mgetD_iff q v _ hnd).2 he
      have := v2 q
      unfold valOf at this
      rw [hg] at this
      have hq := hs q
      simp at this ⊢
      omega
  refine same_scan ?_
  by_cases hs : SameB a b
  · rw [if_pos (hiff.2 hs)]; exact h3 ha hb hs
  · rw [if_neg (fun x => hs (hiff.1 x))]; exact h4 ha hb hs

/-! ### the document's -/
theorem S_ref8_many {l : List Hole} {x : Hole} (hl : l.length ≤ 1000000) {Q : Int → Prop} (h : Q (cntP x l : Int)) : M_ref8_many l x Q := by
  unfold M_ref8_many
  refine forIn0 (fun k n => n = (cntP x (l.take k) : Int)) (by simp [cntP]) (fun k y n hy hI next hn => ?_) (fun n hI => ?_)
  · have hk := lt_of_get hy
    have hs : cntP x (l.take (k + 1)) = cntP x (l.take k) + (if y = x then 1 else 0) := by
      rw [List.take_add_one, hy, cntP_append]; simp [cntP]
    have hle := cntP_le x (l.take k)
    rw [List.length_take] at hle
    unfold M_ref8_many_L1
    refine cnd_of (fun e => ?_) (fun e => ?_)
    · rw [w64_id (by omega) (by omega)]
      exact hn _ (by rw [hs, if_pos (of_decide_eq_true e), hI]; omega)
    · exact hn _ (by rw [hs, if_neg (of_decide_eq_false e), hI]; omega)
  · rw [List.take_length] at hI; subst hI; exact h
theorem S_ref8_SameHoles {a b : List Hole} (ha : a.length ≤ 1000000) (hb : b.length ≤ 1000000) {Q : Bool → Prop} (h1 : a.Perm b → Q true) (h2 : ¬ a.Perm b → Q false) : M_ref8_SameHoles a b Q := by
  unfold M_ref8_SameHoles
  refine forIn0 (fun k _ => ∀ i x, i < k → a[i]? = some x → cntP x a = cntP x b) (fun i x hi => by omega) (fun k x s hx hI next hn => ?_) (fun s hI => ?_)
  · unfold M_ref8_SameHoles_L1
    refine S_ref8_many ha (S_ref8_many hb (cnd_of (fun e => ?_) (fun e => ?_)))
    · exact h2 (fun hp => by rw [cntP_perm x hp] at e; simp at e)
    · refine hn _ (fun i y hi hy => ?_)
      rcases Nat.lt_or_ge i k with c | c
      · exact hI i y c hy
      · obtain rfl : i = k := by omega
        rw [hx] at hy; injection hy with hy; subst hy
        simp at e; omega
  · by_cases e : a.length = b.length
    · rw [show ((a.length : Int) == (b.length : Int)) = true by simp [e]]
      refine h1 (perm_of_cnt a b (fun x hx => ?_) e)
      obtain ⟨i, hi⟩ := List.getElem?_of_mem hx
      exact Nat.le_of_eq (hI i x (lt_of_get hi) hi)
    · rw [show ((a.length : Int) == (b.length : Int)) = false by simp; omega]
      exact h2 (fun hp => e hp.length_eq)
theorem S_ref8_holesOf {j : List Job} {T : Str} (hl : (holesTo j j.length).length ≤ 2000) {Q : List Hole → Prop} (h : Q (holesBy j T)) : M_ref8_holesOf j T Q := by
  unfold M_ref8_holesOf
  refine forIn0 (fun k l => l = holesBy (j.take k) T) (by rfl) (fun k x l hx hI next hn => ?_) (fun l hI => ?_)
  · have hs : holesBy (j.take (k + 1)) T = holesBy (j.take k) T ++ (if x.Tool = T then x.Holes else []) := by
      unfold holesBy
      rw [List.take_add_one, hx, List.filter_append, List.flatMap_append]
      congr 1
      by_cases e : x.Tool = T <;> simp [e]
    have hle : (holesBy (j.take (k + 1)) T).length ≤ 2000 := by
      have h1 := holesBy_len (j.take (k + 1)) T
      have h2 : (holesTo (j.take (k + 1)) (j.take (k + 1)).length).length ≤ (holesTo j j.length).length := by
        unfold holesTo
        rw [List.take_length, List.take_length]
        have e : j = j.take (k + 1) ++ j.drop (k + 1) := (List.take_append_drop _ _).symm
        rw [show (j.flatMap (·.Holes)).length = ((j.take (k + 1) ++ j.drop (k + 1)).flatMap (·.Holes)).length by rw [← e], List.flatMap_append, List.length_append]
        exact Nat.le_add_right _ _
      omega
    unfold M_ref8_holesOf_L1
    refine cnd_of (fun e => ?_) (fun e => ?_)
    · have e' : x.Tool = T := by simpa using e
      rw [if_pos e', ← hI] at hs
      rw [hs] at hle
      exact ⟨room_of (by omega) (by omega), hn _ hs.symm⟩
    · have e' : x.Tool ≠ T := by simpa using e
      rw [if_neg e', List.append_nil, ← hI] at hs
      exact hn _ hs.symm
  · rw [List.take_length] at hI; subst hI; exact h
theorem S_ref8_Same {t : List Bit} {a b : List Job} (ht : Fits.fits t) {Q : Bool → Int → Prop} (h1 : jobsFault t a ≠ 0 → Q false (jobsFault t a)) (h2 : jobsFault t a = 0 → jobsFault t b ≠ 0 → Q false (jobsFault t b))
    (h3 : jobsFault t a = 0 → jobsFault t b = 0 → SameB a b → Q true 0) (h4 : jobsFault t a = 0 → jobsFault t b = 0 → ¬ SameB a b → Q false 0) : M_ref8_Same t a b Q := by
  unfold M_ref8_Same
  refine S_ref8_CheckJobs ht (cnd_of (fun e => h1 (by simpa using e)) (fun e => S_ref8_CheckJobs ht (cnd_of (fun e2 => h2 (by simpa using e) (by simpa using e2)) (fun e2 => ?_))))
  have ha : jobsFault t a = 0 := by simpa using e
  have hb : jobsFault t b = 0 := by simpa using e2
  have la := (jobs_ok ha).2.2.2
  have lb := (jobs_ok hb).2.2.2
  have hiff := sameB_iff (jobs_tools ha) (jobs_tools hb)
  refine forIn0 (fun k _ => ∀ i y, i < k → t[i]? = some y → (holesBy a y.Name).Perm (holesBy b y.Name)) (fun i x hi => by omega) (fun k x s hx hI next hn => ?_) (fun s hI => ?_)
  · unfold M_ref8_Same_L1
    have l1 := holesBy_len a x.Name
    have l2 := holesBy_len b x.Name
    refine S_ref8_holesOf la (S_ref8_holesOf lb (S_ref8_SameHoles (by omega) (by omega) (fun hp => ?_) (fun hp => ?_)))
    · refine cnd_of (fun e => by simp at e) (fun _ => hn _ (fun i y hi hy => ?_))
      rcases Nat.lt_or_ge i k with c | c
      · exact hI i y c hy
      · obtain rfl : i = k := by omega
        rw [hx] at hy; injection hy with hy; subst hy
        exact hp
    · refine cnd_of (fun _ => h4 ha hb (fun hs => hp (hiff.1 hs x (List.mem_of_getElem? hx)))) (fun e => by simp at e)
  · refine h3 ha hb (hiff.2 (fun y hy => ?_))
    obtain ⟨i, hi⟩ := List.getElem?_of_mem hy
    exact hI i y (lt_of_get hi) hi
/-! ### the law -/
theorem S_clone_job {α : Type} {xs : List α} (hr : room xs.length 40) {Q : List α → Prop} (h : Q xs) : M_clone_job xs Q := by
  unfold M_clone_job
  exact clone_step hr h
theorem S_reverse_job {α : Type} {xs : List α} (hl : xs.length ≤ 9223372036854775807) {Q : List α → Prop} (h : Q xs.reverse) : M_reverse_job xs Q := by
  unfold M_reverse_job
  have hw : w64 ((xs.length : Int) - 1) = (xs.length : Int) - 1 := w64_id (by omega) (by omega)
  rw [hw]
  refine rev_loop (lo := 0) (n := xs.length) (by omega) hl (Q := Q) (fun X l i j hll hij hj hX => ?_) (fun X l i j hll hij hq => ?_) ?_
  · unfold M_reverse_job_L1
    dsimp only
    refine cnd_of (fun _ => ?_) (fun e => by have := of_decide_eq_false e; omega)
    have hj' : j < l.length := by omega
    have hi' : i < l.length := by omega
    refine idx_nat (List.getElem?_eq_getElem hj') (idx_nat (List.getElem?_eq_getElem hi') (idx_nat (x := (l.set i l[j])[j]'(by simp; omega)) (by rw [Int.toNat_natCast]; exact List.getElem?_eq_getElem (by simp; omega)) ?_))
    rw [w64_id (by omega) (by omega), w64_id (by omega) (by omega)]
    have := hX l[j] l[i] (by rw [Nat.zero_add]; exact List.getElem?_eq_getElem hj') (by rw [Nat.zero_add]; exact List.getElem?_eq_getElem hi')
    rw [Nat.zero_add, Nat.zero_add] at this
    rw [Int.toNat_natCast, Int.toNat_natCast, show ((i : Int) + 1) = ((i + 1 : Nat) : Int) by omega, show ((j : Int) - 1) = ((j - 1 : Nat) : Int) by omega]
    exact this
  · unfold M_reverse_job_L1
    dsimp only
    exact cnd_of (fun e => absurd (of_decide_eq_true e) hij) (fun _ => hq)
  · simpa using h
theorem law_same (t : List Bit) (a b : List Job) (ht : Fits.fits t) (hr : a.length * 40 ≤ 140737488351232) : M_law_Same t a b (· = true) := by
  have turned : M_law_Same_k1 t a (· = true) false := by
    unfold M_law_Same_k1
    refine cnd_of (fun e => by cases e) (fun _ α zf va hva => ?_)
    have hlen : va.length = a.length := by rw [← hva, List.length_map]
    refine S_clone_job (room_of (by omega) (by omega)) (S_reverse_job (by omega) ?_)
    have hz : va.reverse.map zf = a.reverse := by rw [List.map_reverse, hva]
    rw [hz]
    refine S_drill_Same ht (fun h => ?_) (fun _ h => ?_) (fun _ _ _ => ?_) (fun h1 h2 h3 => ?_)
    · exact cnd_of (fun _ => rfl) (fun e => absurd (by simpa using e) h)
    · exact cnd_of (fun _ => rfl) (fun e => absurd (by simpa using e) h)
    · exact cnd_of (fun _ => rfl) (fun _ => rfl)
    · refine absurd (fun p => ?_) h3
      exact cntP_perm p (by unfold jobsPairs; exact List.Perm.flatMap_right _ a.reverse_perm.symm)
  unfold M_law_Same
  have fin : ∀ (x : Bool) (f : Int), (cnd (f != f) (M_law_Same_k1 t a (· = true) true) (cnd (!(x == x)) (M_law_Same_k1 t a (· = true) true) (M_awake fun y8 => M_law_Same_k1 t a (· = true) (!y8)))) := fun x f => by
    refine cnd_of (fun e => by simp at e) (fun _ => cnd_of (fun e => by simp at e) (fun _ => S_awake ?_))
    exact turned
  refine S_drill_Same ht (fun h => ?_) (fun h1 h => ?_) (fun h1 h2 h => ?_) (fun h1 h2 h => ?_)
  · exact S_ref8_Same ht (fun _ => fin _ _) (fun h1 => absurd h1 h) (fun h1 => absurd h1 h) (fun h1 => absurd h1 h)
  · exact S_ref8_Same ht (fun h2 => absurd h1 h2) (fun _ _ => fin _ _) (fun _ h2 => absurd h2 h) (fun _ h2 => absurd h2 h)
  · exact S_ref8_Same ht (fun h3 => absurd h1 h3) (fun _ h3 => absurd h2 h3) (fun _ _ _ => fin _ _) (fun _ _ h3 => absurd h h3)
  · exact S_ref8_Same ht (fun h3 => absurd h1 h3) (fun _ h3 => absurd h2 h3) (fun _ _ h3 => absurd h3 h) (fun _ _ _ => fin _ _)
end Go.Proofs.Ytmopdabkfklefaa

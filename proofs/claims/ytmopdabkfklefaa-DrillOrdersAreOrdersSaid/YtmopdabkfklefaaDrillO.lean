/- Chapter 8: orders made better: what program and reference come to. -/
import Derived.Test.YtmopdabkfklefaaDrillM
import Derived.Test.YtmopdabkfklefaaRev
namespace Go.Proofs.Ytmopdabkfklefaa
open Go Go.RowKit
set_option linter.unusedVariables false

/-! ### distances -/
def Pt (p : Point) : Prop := -1000000 ≤ p.X ∧ p.X ≤ 1000000 ∧ -1000000 ≤ p.Y ∧ p.Y ≤ 1000000
theorem pt_of {p : Point} (h : isPoint p = true) : Pt p := by
  unfold isPoint within at h
  simp at h
  unfold Pt
  omega
theorem far_val {p q : Point} (hp : Pt p) (hq : Pt q) : far p q = max (max (p.X - q.X) (q.X - p.X)) (max (p.Y - q.Y) (q.Y - p.Y)) := by
  unfold Pt at hp hq
  unfold far apart
  rw [w64_id (by omega) (by omega), w64_id (by omega) (by omega), w64_id (by omega) (by omega), w64_id (by omega) (by omega)]
theorem far_sym {p q : Point} (hp : Pt p) (hq : Pt q) : far p q = far q p := by rw [far_val hp hq, far_val hq hp]; omega
theorem far_bound {p q : Point} (hp : Pt p) (hq : Pt q) : 0 ≤ far p q ∧ far p q ≤ 2000000 := by
  rw [far_val hp hq]; unfold Pt at hp hq; omega
def pathLen : Point → List Point → Int
  | _, [] => 0
  | p, q :: r => far p q + pathLen q r
def lastD : Point → List Point → Point
  | p, [] => p
  | _, q :: r => lastD q r
theorem pathLen_append : ∀ (a b : List Point) (p : Point), pathLen p (a ++ b) = pathLen p a + pathLen (lastD p a) b
  | [], b, p => by simp [pathLen, lastD]
  | q :: r, b, p => by simp only [List.cons_append, pathLen, lastD]; rw [pathLen_append r b q]; omega
theorem lastD_append : ∀ (a b : List Point) (p : Point), lastD p (a ++ b) = lastD (lastD p a) b
  | [], b, p => rfl
  | q :: r, b, p => by simp only [List.cons_append, lastD]; exact lastD_append r b q
theorem pathLen_bound : ∀ {r : List Point} {p : Point}, Pt p → (∀ q ∈ r, Pt q) → 0 ≤ pathLen p r ∧ pathLen p r ≤ 2000000 * r.length
  | [], p, _, _ => by simp [pathLen]
  | q :: r, p, hp, hr => by
    have hq := hr q (List.mem_cons_self ..)
    have := far_bound hp hq
    have := pathLen_bound hq (fun x hx => hr x (List.mem_cons_of_mem _ hx))
    simp only [pathLen, List.length_cons]
    omega
theorem rev_len : ∀ (r : List Point) (a : Point), Pt a → (∀ q ∈ r, Pt q) → ∃ s : Int, (∀ p, pathLen p (a :: r) = far p a + s) ∧ (∀ p, pathLen p (a :: r).reverse = far p (lastD a r) + s) ∧ (∀ p, lastD p (a :: r).reverse = a)
  | [], a, _, _ => ⟨0, fun p => by simp [pathLen], fun p => by simp [pathLen, lastD], fun p => by simp [lastD]⟩
  | b :: r, a, ha, hr => by
    have hb := hr b (List.mem_cons_self ..)
    obtain ⟨s, h1, h2, h3⟩ := rev_len r b hb (fun x hx => hr x (List.mem_cons_of_mem _ hx))
    refine ⟨far a b + s, fun p => ?_, fun p => ?_, fun p => ?_⟩
    · show far p a + pathLen a (b :: r) = _
      rw [h1]
    · rw [List.reverse_cons, pathLen_append, h2, h3]
      show _ + (far b a + 0) = far p (lastD b r) + _
      rw [far_sym hb ha]
      omega
    · rw [List.reverse_cons, lastD_append, h3]; rfl
/-- a part turned around: by how much the way changes -/
theorem turn_delta {A R B : List Point} {fr a : Point} {r : List Point} (hR : R = a :: r) (hfr : Pt fr) (ha : Pt a) (hr : ∀ q ∈ r, Pt q) :
    pathLen fr (A ++ R.reverse ++ B) - pathLen fr (A ++ R ++ B) = (far (lastD fr A) (lastD a r) + (match B with | [] => 0 | c :: _ => far a c)) - (far (lastD fr A) a + (match B with | [] => 0 | c :: _ => far (lastD a r) c)) := by
  obtain ⟨s, h1, h2, h3⟩ := rev_len r a ha hr
  subst hR
  rw [pathLen_append, pathLen_append, pathLen_append, pathLen_append, h1, h2, lastD_append, lastD_append, h3]
  cases B with
  | nil => simp only [pathLen]; show _ = _; omega
  | cons c B =>
    simp only [pathLen]
    show _ = _
    have : lastD (lastD fr A) (a :: r) = lastD a r := rfl
    rw [this]
    omega

/-! ### orders -/
def ptAt (l : List Point) (x : Int) : Point := l.getD x.toNat default
def Valid (l : List Point) (o : List Int) : Prop := o.length = l.length ∧ ∀ x ∈ o, 0 ≤ x ∧ x < l.length
def lenOrd (l : List Point) (fr : Point) (o : List Int) : Int := pathLen fr (o.map (ptAt l))
theorem ptAt_get {l : List Point} {x : Int} (h : 0 ≤ x ∧ x < l.length) : l[x.toNat]? = some (ptAt l x) := by
  unfold ptAt; rw [List.getD_eq_getElem?_getD, List.getElem?_eq_getElem (by omega)]; rfl
def turned (o : List Int) (i j : Nat) : List Int := o.take i ++ ((o.drop i).take (j + 1 - i)).reverse ++ o.drop (j + 1)
theorem turned_mem {o : List Int} {i j : Nat} {x : Int} (h : x ∈ turned o i j) : x ∈ o := by
  unfold turned at h
  simp only [List.mem_append, List.mem_reverse] at h
  rcases h with (h | h) | h
  · exact List.mem_of_mem_take h
  · exact List.mem_of_mem_drop (List.mem_of_mem_take h)
  · exact List.mem_of_mem_drop h
theorem turned_len {o : List Int} {i j : Nat} (hij : i < j) (hj : j < o.length) : (turned o i j).length = o.length := by
  unfold turned
  simp only [List.length_append, List.length_reverse, List.length_take, List.length_drop]
  omega
theorem Valid.turned {l : List Point} {o : List Int} (h : Valid l o) {i j : Nat} (hij : i < j) (hj : j < o.length) : Valid l (turned o i j) :=
  ⟨by rw [turned_len hij hj]; exact h.1, fun x hx => h.2 x (turned_mem hx)⟩
theorem S_reverse_int {xs : List Int} {lo hi : Nat} (h1 : lo ≤ hi) (h2 : hi ≤ xs.length) (hl : xs.length ≤ 100000) {Q : List Int → Prop} (h : Q (xs.take lo ++ ((xs.drop lo).take (hi - lo)).reverse ++ xs.drop hi)) : M_reverse_int xs (lo : Int) (hi : Int) Q := by
  unfold M_reverse_int
  have hseg : ∀ ys : List Int, ys.length = xs.length → (seg ys (lo : Int) (hi : Int)).length = hi - lo := fun ys hy => by rw [seg_length (by simp; omega)]; simp
  have e : w64 (((seg xs (lo : Int) (hi : Int)).length : Int) - 1) = ((hi - lo : Nat) : Int) - 1 := by rw [hseg xs rfl, w64_id] <;> omega
  rw [e]
  have hsg : ∀ (ys : List Int) (i : Nat), ys.length = xs.length → i < hi - lo → (seg ys (lo : Int) (hi : Int))[i]? = ys[lo + i]? := fun ys i hy hi' => by
    unfold seg
    simp only [Int.toNat_natCast]
    rw [List.getElem?_drop, List.getElem?_take, if_pos (by omega)]
  refine rev_loop (lo := lo) (n := hi - lo) (by omega) (by omega) (Q := Q) (fun X l i j hl2 hij hj hX => ?_) (fun X l i j hl2 hij hq => ?_) ?_
  · unfold M_reverse_int_L1
    have g1 : l[lo + j]? = some l[lo + j] := List.getElem?_eq_getElem (by omega)
    have g2 : l[lo + i]? = some l[lo + i] := List.getElem?_eq_getElem (by omega)
    have hi' : w64 ((i : Int) + 1) = ((i + 1 : Nat) : Int) := by rw [w64_id] <;> omega
    have hj' : w64 ((j : Int) - 1) = ((j - 1 : Nat) : Int) := by rw [w64_id] <;> omega
    refine cnd_of (fun _ => idx_nat ((hsg l j hl2 hj).trans g1) (idx_nat ((hsg l i hl2 (by omega)).trans g2) ?_)) (fun e => by simp at e; omega)
    simp only [Int.toNat_natCast]
    have hl3 : (l.set (lo + i) l[lo + j]).length = xs.length := by simp [hl2]
    have g3 : (l.set (lo + i) l[lo + j])[lo + j]? = some ((l.set (lo + i) l[lo + j])[lo + j]'(by rw [hl3]; omega)) := List.getElem?_eq_getElem _
    refine idx_nat ((hsg _ j hl3 hj).trans g3) ?_
    rw [hi', hj']
    exact hX _ _ g1 g2
  · unfold M_reverse_int_L1
    exact cnd_of (fun e => absurd (by simpa using e) hij) (fun _ => hq)
  · rw [show lo + (hi - lo) = hi by omega]; exact h
theorem S_clone_int {s : List Int} (hs : s.length ≤ 100000) {Q : List Int → Prop} (h : Q s) : M_clone_int s Q := by
  unfold M_clone_int
  exact clone_step (room_of (by omega) (by omega)) h
theorem S_ref8_length {l : List Point} {fr : Point} (hfr : Pt fr) (hl : ∀ q ∈ l, Pt q) {o : List Int} (ho : ∀ x ∈ o, 0 ≤ x ∧ x < l.length) (hn : o.length ≤ 1000) {Q : Int → Prop} (h : Q (lenOrd l fr o)) : M_ref8_length l fr o Q := by
  unfold M_ref8_length
  have hpt : ∀ x ∈ o, Pt (ptAt l x) := fun x hx => hl _ (List.mem_of_getElem? (ptAt_get (ho x hx)))
  refine forIn0 (fun k s => s.1 = lastD fr ((o.take k).map (ptAt l)) ∧ s.2 = pathLen fr ((o.take k).map (ptAt l))) ⟨rfl, rfl⟩ (fun k x s hx hI next hn2 => ?_) (fun s hI => ?_)
  · obtain ⟨b, n⟩ := s
    obtain ⟨h1, h2⟩ := hI
    dsimp only at h1 h2 ⊢
    have hxo := ho x (List.mem_of_getElem? hx)
    unfold M_ref8_length_L1
    refine idx_of hxo.1 (ptAt_get hxo) (hn2 _ ?_)
    have et : o.take (k + 1) = o.take k ++ [x] := by rw [List.take_add_one, hx]; rfl
    have e2 : pathLen fr ((o.take (k + 1)).map (ptAt l)) = n + far b (ptAt l x) := by
      rw [et, List.map_append, pathLen_append, ← h1, ← h2]; simp [pathLen]
    have e1 : lastD fr ((o.take (k + 1)).map (ptAt l)) = ptAt l x := by
      rw [et, List.map_append, lastD_append]; rfl
    have hb := pathLen_bound hfr (r := (o.take (k + 1)).map (ptAt l)) (fun q hq => by
      obtain ⟨y, hy, rfl⟩ := List.mem_map.1 hq
      exact hpt y (List.mem_of_mem_take hy))
    have hlen : ((o.take (k + 1)).map (ptAt l)).length ≤ 1000 := by rw [List.length_map, List.length_take]; omega
    refine ⟨e1.symm, ?_⟩
    dsimp only
    rw [← far_eq, ← e2, w64_id] <;> omega
  · rw [List.take_length] at hI
    have := hI.2
    show Q s.2
    rw [this]; exact h

/-! ### the first turn that makes an order better -/
def ff {β : Type} (g : Nat → Option β) : Nat → Nat → Option β
  | _, 0 => none
  | m, d + 1 => match g m with
    | some b => some b
    | none => ff g (m + 1) d
theorem lp_ff {σ β : Type} {F : (σ → Prop) → σ → Prop} (g : Nat → Option β) (S : Nat → σ) (c : Nat) {A : β → Prop} {D : Prop} {s : σ} (hs : s = S 0)
    (hF : ∀ X m, m < c → (match g m with | some b => A b | none => X (S (m + 1))) → F X (S m)) (hD : ∀ X : σ → Prop, D → F X (S c))
    (h : match ff g 0 c with | some b => A b | none => D) : lp F s := by
  subst hs
  have key : ∀ d m, m + d = c → (match ff g m d with | some b => A b | none => D) → iterF F (d + 1) (S m) := by
    intro d
    induction d with
    | zero => intro m hm hh
              have : m = c := by omega
              rw [this]
              exact hD _ hh
    | succ d ih =>
      intro m hm hh
      refine hF _ m (by omega) ?_
      unfold ff at hh
      cases hg : g m with
      | some b => rw [hg] at hh; exact hh
      | none => rw [hg] at hh; exact ih (m + 1) (by omega) hh
  exact ⟨_, key c 0 (by omega) h⟩
theorem forIn_ff {α β : Type} {body : Nat → α → Unit → (Unit → Prop) → Prop} (g : Nat → Option β) {A : β → Prop} {D : Prop} : ∀ (l : List α) (k : Nat),
    (∀ i x next, l[i]? = some x → (match g (k + i) with | some b => A b | none => next ()) → body (k + i) x () next) → (match ff g k l.length with | some b => A b | none => D) → forIn' body (fun _ => D) l k ()
  | [], k, _, h => h
  | x :: r, k, hb, h => by
    refine hb 0 x _ rfl ?_
    simp only [List.length_cons] at h
    unfold ff at h
    rw [Nat.add_zero]
    cases hg : g k with
    | some b => rw [hg] at h; exact h
    | none =>
      rw [hg] at h
      exact forIn_ff g r (k + 1) (fun i y next hy hq => by
        have := hb (i + 1) y next (by simpa using hy)
        rw [show k + (i + 1) = k + 1 + i by omega] at this
        exact this hq) h
def tryTurn (l : List Point) (fr : Point) (o : List Int) (i d : Nat) : Option (List Int) := if lenOrd l fr (turned o i (i + 1 + d)) < lenOrd l fr o then some (turned o i (i + 1 + d)) else none
def firstTurn (l : List Point) (fr : Point) (o : List Int) : Option (List Int) := ff (fun i => ff (tryTurn l fr o i) 0 (o.length - (i + 1))) 0 o.length
theorem ff_some {β : Type} {g : Nat → Option β} {b : β} : ∀ (d m : Nat), ff g m d = some b → ∃ i, m ≤ i ∧ i < m + d ∧ g i = some b
  | 0, _, h => by simp [ff] at h
  | d + 1, m, h => by
    unfold ff at h
    cases hg : g m with
    | some c => rw [hg] at h; injection h with h; subst h; exact ⟨m, Nat.le_refl _, by omega, hg⟩
    | none => rw [hg] at h; obtain ⟨i, h1, h2, h3⟩ := ff_some d (m + 1) h; exact ⟨i, by omega, by omega, h3⟩
theorem firstTurn_ok {l : List Point} {fr : Point} {o o' : List Int} (hv : Valid l o) (h : firstTurn l fr o = some o') : Valid l o' ∧ lenOrd l fr o' < lenOrd l fr o := by
  obtain ⟨i, _, hi, h1⟩ := ff_some _ _ h
  obtain ⟨d, _, hd, h2⟩ := ff_some _ _ h1
  unfold tryTurn at h2
  split at h2
  · rename_i hlt
    injection h2 with h2
    subst h2
    exact ⟨hv.turned (by omega) (by omega), hlt⟩
  · cases h2
theorem turn_test {l : List Point} {fr : Point} (hfr : Pt fr) (hl : ∀ q ∈ l, Pt q) {o : List Int} (hv : Valid l o) {i j : Nat} {x y : Int} (hij : i < j) (hx : o[i]? = some x) (hy : o[j]? = some y) :
    lenOrd l fr (turned o i j) - lenOrd l fr o = (far (lastD fr ((o.take i).map (ptAt l))) (ptAt l y) + (match o[j + 1]? with | none => 0 | some z => far (ptAt l x) (ptAt l z))) - (far (lastD fr ((o.take i).map (ptAt l))) (ptAt l x) + (match o[j + 1]? with | none => 0 | some z => far (ptAt l y) (ptAt l z))) := by
  have hpt : ∀ x ∈ o, Pt (ptAt l x) := fun x hx => hl _ (List.mem_of_getElem? (ptAt_get (hv.2 x hx)))
  have hjl := lt_of_get hy
  have hR : (o.drop i).take (j + 1 - i) = x :: (o.drop (i + 1)).take (j - i) := by
    have : o.drop i = x :: o.drop (i + 1) := by
      obtain ⟨h, he⟩ := List.getElem?_eq_some_iff.1 hx
      rw [← he]; exact List.drop_eq_getElem_cons h
    rw [this, show j + 1 - i = (j - i) + 1 by omega, List.take_succ_cons]
  have ho : o = o.take i ++ (o.drop i).take (j + 1 - i) ++ o.drop (j + 1) := by
    have h1 : (o.drop i).drop (j + 1 - i) = o.drop (j + 1) := by rw [List.drop_drop]; congr 1; omega
    rw [← h1, List.append_assoc, List.take_append_drop, List.take_append_drop]
  have hlast : lastD (ptAt l x) (((o.drop (i + 1)).take (j - i)).map (ptAt l)) = ptAt l y := by
    have e : (o.drop (i + 1)).take (j - i) = (o.drop (i + 1)).take (j - i - 1) ++ [y] := by
      rw [show j - i = (j - i - 1) + 1 by omega, List.take_add_one, Nat.add_sub_cancel, List.getElem?_drop, show i + 1 + (j - i - 1) = j by omega, hy]; rfl
    rw [e, List.map_append, lastD_append]; rfl
  have key := turn_delta (A := (o.take i).map (ptAt l)) (R := ((o.drop i).take (j + 1 - i)).map (ptAt l)) (B := (o.drop (j + 1)).map (ptAt l)) (fr := fr) (a := ptAt l x) (r := ((o.drop (i + 1)).take (j - i)).map (ptAt l)) (by rw [hR]; rfl) hfr (hpt x (List.mem_of_getElem? hx)) (fun q hq => by
    obtain ⟨z, hz, rfl⟩ := List.mem_map.1 hq
    exact hpt z (List.mem_of_mem_drop (List.mem_of_mem_take hz)))
  have e1 : lenOrd l fr (turned o i j) = pathLen fr ((o.take i).map (ptAt l) ++ (((o.drop i).take (j + 1 - i)).map (ptAt l)).reverse ++ (o.drop (j + 1)).map (ptAt l)) := by
    unfold lenOrd turned; rw [List.map_append, List.map_append, List.map_reverse]
  have e2 : lenOrd l fr o = pathLen fr ((o.take i).map (ptAt l) ++ ((o.drop i).take (j + 1 - i)).map (ptAt l) ++ (o.drop (j + 1)).map (ptAt l)) := by
    unfold lenOrd; rw [← List.map_append, ← List.map_append, ← ho]
  rw [e1, e2, key, hlast]
  cases hz : o[j + 1]? with
  | none =>
    have : o.drop (j + 1) = [] := List.drop_eq_nil_of_le (by rw [List.getElem?_eq_none_iff] at hz; exact hz)
    rw [this]; rfl
  | some z =>
    have : o.drop (j + 1) = z :: o.drop (j + 2) := by
      obtain ⟨h, he⟩ := List.getElem?_eq_some_iff.1 hz
      rw [← he]; exact List.drop_eq_getElem_cons h
    rw [this]; rfl
theorem S_drill_turn {l : List Point} {fr : Point} (hfr : Pt fr) (hl : ∀ q ∈ l, Pt q) (hn : l.length ≤ 200) {o : List Int} (hv : Valid l o) {Q : Bool → List Int → Prop} (h : match firstTurn l fr o with | some o' => Q true o' | none => Q false o) : M_drill_turn l fr o Q := by
  unfold M_drill_turn
  have hol := hv.1
  have hpt : ∀ x ∈ o, Pt (ptAt l x) := fun x hx => hl _ (List.mem_of_getElem? (ptAt_get (hv.2 x hx)))
  refine forIn_ff (fun i => ff (tryTurn l fr o i) 0 (o.length - (i + 1))) (A := fun o' => Q true o') (D := Q false o) o 0 (fun i x next hx hq => ?_) (by unfold firstTurn at h; generalize ff (fun i => ff (tryTurn l fr o i) 0 (o.length - (i + 1))) 0 o.length = z at h ⊢; cases z <;> exact h)
  rw [Nat.zero_add] at hq ⊢
  have hi := lt_of_get hx
  have hxo := hv.2 x (List.mem_of_getElem? hx)
  have hb : M_drill_turn_k2 l o Q i x (next ()) (lastD fr ((o.take i).map (ptAt l))) := by
    unfold M_drill_turn_k2
    have hbp : Pt (lastD fr ((o.take i).map (ptAt l))) := by
      have : ∀ (r : List Point) (p : Point), Pt p → (∀ q ∈ r, Pt q) → Pt (lastD p r) := by
        intro r
        induction r with
        | nil => intro p hp _; exact hp
        | cons q r ih => intro p _ hr; exact ih q (hr q (List.mem_cons_self ..)) (fun y hy => hr y (List.mem_cons_of_mem _ hy))
      exact this _ _ hfr (fun q hq => by obtain ⟨z, hz, rfl⟩ := List.mem_map.1 hq; exact hpt z (List.mem_of_mem_take hz))
    refine lp_ff (tryTurn l fr o i) (fun d => ((i + 1 + d : Nat) : Int)) (o.length - (i + 1)) (A := fun o' => Q true o') (D := next ()) (by rfl) (fun X d hd hX => ?_) (fun X hD => ?_) hq
    · unfold M_drill_turn_L2
      have hj : i + 1 + d < o.length := by omega
      have hy : o[i + 1 + d]? = some o[i + 1 + d] := List.getElem?_eq_getElem hj
      have hyo := hv.2 _ (List.mem_of_getElem? hy)
      have hw : w64 (((i + 1 + d : Nat) : Int) + 1) = ((i + 1 + d + 1 : Nat) : Int) := by rw [w64_id] <;> omega
      have ht := turn_test hfr hl hv (show i < i + 1 + d by omega) hx hy
      have hk4 : ∀ was now : Int, now - was = lenOrd l fr (turned o i (i + 1 + d)) - lenOrd l fr o → M_drill_turn_k4 o Q i ((i + 1 + d : Nat) : Int) (fun n2 => X n2) was now := by
        intro was now he
        unfold M_drill_turn_k4
        unfold tryTurn at hX
        rw [hw]
        refine cnd_of (fun e => ?_) (fun e => ?_)
        · have : now < was := by simpa using e
          rw [if_pos (by omega)] at hX
          refine ⟨by omega, S_reverse_int (by omega) (by omega) (by omega) ?_⟩
          exact hX
        · have : ¬ now < was := by simpa using e
          rw [if_neg (by omega)] at hX
          exact hX
      refine cnd_of (fun _ => idx_of hxo.1 (ptAt_get hxo) (idx_nat hy (idx_of hyo.1 (ptAt_get hyo) ?_))) (fun e => by simp at e; omega)
      rw [hw]
      have f1 := far_bound hbp (hpt x (List.mem_of_getElem? hx))
      have f2 := far_bound hbp (hpt _ (List.mem_of_getElem? hy))
      refine cnd_of (fun e => ?_) (fun e => ?_)
      · have hz1 : i + 1 + d + 1 < o.length := by simp at e; omega
        have hz : o[i + 1 + d + 1]? = some (o[i + 1 + d + 1]'hz1) := List.getElem?_eq_getElem hz1
        have hzo := hv.2 _ (List.mem_of_getElem? hz)
        have f3 := far_bound (hpt _ (List.mem_of_getElem? hy)) (hpt _ (List.mem_of_getElem? hz))
        have f4 := far_bound (hpt x (List.mem_of_getElem? hx)) (hpt _ (List.mem_of_getElem? hz))
        refine idx_nat hz (idx_of hzo.1 (ptAt_get hzo) (hk4 _ _ ?_))
        rw [w64_id (by omega) (by omega), w64_id (by omega) (by omega), ht, hz]
      · have hz : o[i + 1 + d + 1]? = none := List.getElem?_eq_none (by simp at e; omega)
        refine hk4 _ _ ?_
        rw [ht, hz]
        simp
    · unfold M_drill_turn_L2
      refine cnd_of (fun e => by simp at e; omega) (fun _ => hD)
  unfold M_drill_turn_L1
  refine cnd_of (fun e => ?_) (fun e => ?_)
  · have hpos : 0 < i := by simpa using e
    have hw : w64 ((i : Int) - 1) = ((i - 1 : Nat) : Int) := by rw [w64_id] <;> omega
    rw [hw]
    have hy : o[i - 1]? = some o[i - 1] := List.getElem?_eq_getElem (by omega)
    have hyo := hv.2 _ (List.mem_of_getElem? hy)
    refine idx_nat hy (idx_of hyo.1 (ptAt_get hyo) ?_)
    have hl2 : ∀ (m : Nat) (z : Int), o[m]? = some z → lastD fr ((o.take (m + 1)).map (ptAt l)) = ptAt l z := fun m z hz => by
      rw [List.take_add_one, hz, List.map_append, lastD_append]; rfl
    have := hl2 (i - 1) _ hy
    rw [show i - 1 + 1 = i by omega] at this
    rw [this] at hb; exact hb
  · have h0 : i = 0 := by simpa using e
    subst h0
    exact hb
theorem S_ref8_turned {o : List Int} {i j : Nat} (hij : i < j) (hj : j < o.length) (hn : o.length ≤ 1000) {Q : List Int → Prop} (h : Q (turned o i j)) : M_ref8_turned o (i : Int) (j : Int) Q := by
  unfold M_ref8_turned
  have hw : w64 ((j : Int) + 1) = ((j + 1 : Nat) : Int) := by rw [w64_id] <;> omega
  rw [hw]
  exact S_clone_int (by omega) ⟨by omega, S_reverse_int (by omega) (by omega) (by omega) h⟩
theorem S_ref8_shorter {l : List Point} {fr : Point} (hfr : Pt fr) (hl : ∀ q ∈ l, Pt q) (hn : l.length ≤ 200) {o : List Int} (hv : Valid l o) {Q : List Int → Bool → Prop} (h : match firstTurn l fr o with | some o' => Q o' true | none => Q [] false) : M_ref8_shorter l fr o Q := by
  unfold M_ref8_shorter
  have hol := hv.1
  refine S_ref8_length hfr hl hv.2 (by omega) ?_
  refine forIn_ff (fun i => ff (tryTurn l fr o i) 0 (o.length - (i + 1))) (A := fun o' => Q o' true) (D := Q [] false) o 0 (fun i x next hx hq => ?_) (by unfold firstTurn at h; generalize ff (fun i => ff (tryTurn l fr o i) 0 (o.length - (i + 1))) 0 o.length = z at h ⊢; cases z <;> exact h)
  rw [Nat.zero_add] at hq ⊢
  have hi := lt_of_get hx
  unfold M_ref8_shorter_L1
  refine lp_ff (tryTurn l fr o i) (fun d => ((i + 1 + d : Nat) : Int)) (o.length - (i + 1)) (A := fun o' => Q o' true) (D := next ()) (by rfl) (fun X d hd hX => ?_) (fun X hD => ?_) hq
  · unfold M_ref8_shorter_L2
    have hj : i + 1 + d < o.length := by omega
    have hw : w64 (((i + 1 + d : Nat) : Int) + 1) = ((i + 1 + d + 1 : Nat) : Int) := by rw [w64_id] <;> omega
    have hvt := hv.turned (show i < i + 1 + d by omega) hj
    refine cnd_of (fun _ => S_ref8_turned (by omega) hj (by omega) (S_ref8_length hfr hl hvt.2 (by rw [hvt.1]; omega) ?_)) (fun e => by simp at e; omega)
    unfold tryTurn at hX
    rw [hw]
    refine cnd_of (fun e => ?_) (fun e => ?_)
    · rw [if_pos (by simpa using e)] at hX; exact hX
    · rw [if_neg (by simpa using e)] at hX; exact hX
  · unfold M_ref8_shorter_L2
    refine cnd_of (fun e => by simp at e; omega) (fun _ => hD)
/-- turned as long as it gets better, at most so often -/
def betterTo (l : List Point) (fr : Point) : Nat → List Int → List Int
  | 0, o => o
  | c + 1, o => match firstTurn l fr o with
    | some o' => betterTo l fr c o'
    | none => o
theorem greedy_valid (l : List Point) (fr : Point) : Valid l (greedyOf l fr) := by
  refine ⟨(runTo_len l fr l.length).1, ?_⟩
  have key : ∀ k, k ≤ l.length → ∀ x ∈ (runTo l fr k).1, 0 ≤ x ∧ x < (l.length : Int) := by
    intro k
    induction k with
    | zero => intro _ x hx; simp [runTo] at hx
    | succ k ih =>
      intro hk x hx
      simp only [runTo, List.mem_append, List.mem_singleton] at hx
      rcases hx with hx | hx
      · exact ih (by omega) x hx
      · have := (runTo_count l fr k (by omega)).2 (by omega)
        rw [hx]; exact this
  exact key l.length (Nat.le_refl _)
theorem points_ok {l : List Point} {fr : Point} {most : Int} (h : pointsFault l fr most = 0) : Pt fr ∧ (∀ q ∈ l, Pt q) ∧ (l.length : Int) ≤ most := by
  have hle := fault_len h
  unfold pointsFault at h
  split at h; · omega
  split at h; · omega
  rename_i hn
  simp only [not_or, Bool.not_eq_false, Bool.not_eq_true] at hn
  refine ⟨pt_of hn.1, fun q hq => ?_, hle⟩
  have := List.any_eq_false.1 hn.2 q hq
  exact pt_of (by simpa [notPoint] using this)
def betterOf (l : List Point) (fr : Point) : List Int := betterTo l fr 5000 (greedyOf l fr)
theorem S_drill_Better {l : List Point} {fr : Point} {Q : List Int → Int → Prop} (h : if pointsFault l fr 200 = 0 then Q (betterOf l fr) 0 else Q [] (pointsFault l fr 200)) : M_drill_Better l fr Q := by
  unfold M_drill_Better
  refine S_drill_checkPoints (cnd_of (fun e => ?_) (fun e => ?_))
  · rw [if_neg (by simpa using e)] at h; exact h
  · have e' : pointsFault l fr 200 = 0 := by simpa using e
    rw [if_pos e'] at h
    obtain ⟨hfr, hl, hn⟩ := points_ok e'
    refine S_drill_greedy (by omega) ?_
    refine lp_intro (fun (s : List Int × Int) => ∃ c : Nat, c ≤ 5000 ∧ s.2 = 5000 - (c : Int) ∧ Valid l s.1 ∧ Q (betterTo l fr c s.1) 0) (fun s => (5000 - s.2).toNat) ⟨5000, Nat.le_refl _, by simp, greedy_valid l fr, h⟩ ?_
    rintro X ⟨o, n⟩ ⟨c, hc, hn2, hv, hq⟩ hX
    dsimp only at hn2 hv hq hX
    unfold M_drill_Better_L1 M_drill_Better_k2
    refine cnd_of (fun e => ?_) (fun e => ?_)
    · have hlt : n < 5000 := by simpa using e
      obtain ⟨c', rfl⟩ : ∃ c', c = c' + 1 := ⟨c - 1, by omega⟩
      have hw : w64 (n + 1) = 5000 - (c' : Int) := by rw [w64_id] <;> omega
      refine S_drill_turn hfr hl (by omega) hv ?_
      unfold betterTo at hq
      cases hf : firstTurn l fr o with
      | some o' =>
        rw [hf] at hq
        dsimp only at hq ⊢
        rw [cnd_true, hw]
        exact hX _ ⟨c', by omega, rfl, (firstTurn_ok hv hf).1, hq⟩ (by dsimp only; omega)
      | none =>
        rw [hf] at hq
        dsimp only at hq ⊢
        rw [cnd_false]; exact hq
    · have : c = 0 := by have : ¬ n < 5000 := by simpa using e
                         omega
      subst this
      rw [cnd_false]; exact hq
theorem S_ref8_Better {l : List Point} {fr : Point} {Q : List Int → Int → Prop} (h : if pointsFault l fr 200 = 0 then Q (betterOf l fr) 0 else Q [] (pointsFault l fr 200)) : M_ref8_Better l fr Q := by
  unfold M_ref8_Better
  refine S_ref8_askPoints (by decide) (cnd_of (fun e => ?_) (fun e => ?_))
  · rw [if_neg (by simpa using e)] at h; exact h
  · have e' : pointsFault l fr 200 = 0 := by simpa using e
    rw [if_pos e'] at h
    obtain ⟨hfr, hl, hn⟩ := points_ok e'
    refine S_ref8_greedy (by omega) ?_
    refine lp_intro (fun (s : List Int × Int) => ∃ c : Nat, c ≤ 5000 ∧ s.2 = 5000 - (c : Int) ∧ Valid l s.1 ∧ Q (betterTo l fr c s.1) 0) (fun s => (5000 - s.2).toNat) ⟨5000, Nat.le_refl _, by simp, greedy_valid l fr, h⟩ ?_
    rintro X ⟨o, n⟩ ⟨c, hc, hn2, hv, hq⟩ hX
    dsimp only at hn2 hv hq hX
    unfold M_ref8_Better_L1
    refine cnd_of (fun e => ?_) (fun e => ?_)
    · have hlt : n < 5000 := by simpa using e
      obtain ⟨c', rfl⟩ : ∃ c', c = c' + 1 := ⟨c - 1, by omega⟩
      have hw : w64 (n + 1) = 5000 - (c' : Int) := by rw [w64_id] <;> omega
      refine S_ref8_shorter hfr hl (by omega) hv ?_
      unfold betterTo at hq
      cases hf : firstTurn l fr o with
      | some o' =>
        rw [hf] at hq
        dsimp only at hq ⊢
        simp only [Bool.not_true, cnd_false]
        rw [hw]
        exact hX _ ⟨c', by omega, rfl, (firstTurn_ok hv hf).1, hq⟩ (by dsimp only; omega)
      | none =>
        rw [hf] at hq
        dsimp only at hq ⊢
        simp only [Bool.not_false, cnd_true]; exact hq
    · have : c = 0 := by have : ¬ n < 5000 := by simpa using e
                         omega
      subst this
      exact hq
theorem law_Better_true (l : List Point) (fr : Point) : M_law_Better l fr (· = true) := by
  unfold M_law_Better
  refine S_drill_Better ?_
  split
  · rename_i e
    refine S_ref8_Better ?_
    rw [if_pos e]
    simp only [beq_self_eq_true, cnd_true]
    exact S_equal_int (by simp only [decide_true, cnd_true]; exact S_awake rfl)
  · rename_i e
    refine S_ref8_Better ?_
    rw [if_neg e]
    simp only [beq_self_eq_true, cnd_true]
    exact S_equal_int (by simp only [decide_true, cnd_true]; exact S_awake rfl)
end Go.Proofs.Ytmopdabkfklefaa

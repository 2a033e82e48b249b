/- Chapter 8: the shortest order: the laws, plain. -/
import Derived.Test.YtmopdabkfklefaaDrillP
namespace Go.Proofs.Ytmopdabkfklefaa
open Go Go.RowKit
set_option linter.unusedVariables false

def PU (u : List Bool) : Nat → Bool := fun i => !(u.getD i true)
theorem wo_PU {u : List Bool} {k : Nat} (hk : k < u.length) : Short.wo (PU u) k = PU (u.set k true) := by
  funext i
  unfold Short.wo PU
  rw [List.getD_eq_getElem?_getD, List.getD_eq_getElem?_getD, List.getElem?_set]
  by_cases hi : k = i
  · subst hi; simp [hk]
  · have : (i != k) = true := by simpa using fun e => hi e.symm
    simp [hi, this]
def finS (l : List Point) (now best : List Int) (sum most : Int) (c : Nat) (P : Nat → Bool) (p : Point) : List Int × Int :=
  if 0 ≤ most ∧ most ≤ sum + Short.R nfar (pt l) l.length c P p then (best, most) else (now ++ Short.O nfar (pt l) l.length c P p, sum + Short.R nfar (pt l) l.length c P p)
theorem R_succ (l : List Point) (c : Nat) (P : Nat → Bool) (p : Point) : Short.R nfar (pt l) l.length (c + 1) P p = (Short.sel (fun k => nfar p (pt l k) + Short.R nfar (pt l) l.length c (Short.wo P k) (pt l k)) (Short.rest l.length P)).2 := rfl
theorem O_succ (l : List Point) (c : Nat) (P : Nat → Bool) (p : Point) : Short.O nfar (pt l) l.length (c + 1) P p = (Short.sel (fun k => nfar p (pt l k) + Short.R nfar (pt l) l.length c (Short.wo P k) (pt l k)) (Short.rest l.length P)).1 ::
    Short.O nfar (pt l) l.length c (Short.wo P (Short.sel (fun k => nfar p (pt l k) + Short.R nfar (pt l) l.length c (Short.wo P k) (pt l k)) (Short.rest l.length P)).1.toNat) (pt l (Short.sel (fun k => nfar p (pt l k) + Short.R nfar (pt l) l.length c (Short.wo P k) (pt l k)) (Short.rest l.length P)).1.toNat) := rfl
theorem S_goOn {l : List Point} (hl : ∀ q ∈ l, Pt q) (hn : l.length ≤ 10) : ∀ (c : Nat) (u : List Bool) (now best : List Int) (most sum : Int) (p : Point) (Q : R8Search → Prop),
    u.length = l.length → (Short.rest l.length (PU u)).length = c → now.length + c = l.length → Pt p → 0 ≤ sum → sum ≤ 2000000 * now.length →
    Q ⟨l, u, now, (finS l now best sum most c (PU u) p).1, (finS l now best sum most c (PU u) p).2⟩ → N_ref8_goOn (c + 1) ⟨l, u, now, best, most⟩ p sum Q := by
  intro c
  induction c with
  | zero =>
    intro u now best most sum p Q hu hc hnow hp h0 h1 h
    show M_ref8_goOn_B _ _ _ _ _
    unfold M_ref8_goOn_B M_ref8_goOn_k1
    unfold finS at h
    simp only [Short.R, Short.O, List.append_nil, Int.add_zero] at h
    have fin : ¬ (0 ≤ most ∧ most ≤ sum) → cnd ((now.length : Int) == (l.length : Int)) (M_clone_int now fun y1 => Q ⟨l, u, now, y1, sum⟩) False := fun hc => by
      rw [if_neg hc] at h
      refine cnd_of (fun _ => S_clone_int (by omega) h) (fun e => absurd (show now.length = l.length by omega) (by simp at e; omega))
    refine cnd_of (fun e => cnd_of (fun e2 => ?_) (fun e2 => ?_)) (fun e => cnd_of (fun e => by cases e) (fun _ => ?_))
    · rw [if_pos ⟨by simpa using e, by simpa using e2⟩] at h; exact h
    · exact cnd_mono (fin (by simp at e2; omega)) (fun h => h) (fun h => h.elim)
    · exact cnd_mono (fin (by simp at e; omega)) (fun h => h) (fun h => h.elim)
  | succ c ih =>
    intro u now best most sum p Q hu hc hnow hp h0 h1 h
    show M_ref8_goOn_B _ _ _ _ _
    unfold M_ref8_goOn_B M_ref8_goOn_k1
    have hRb := (R_bound l (c + 1) (PU u) p hc).1
    have fin : ¬ (0 ≤ most ∧ most ≤ sum) → cnd ((now.length : Int) == (l.length : Int)) (M_clone_int now fun y1 => Q ⟨l, u, now, y1, sum⟩)
        (forIn' (fun k x (s : List Bool × List Int × List Int × Int) next => M_ref8_goOn_L1 ⟨l, u, now, best, most⟩ p sum (N_ref8_goOn (c + 1)) k x s.1 s.2.1 s.2.2.1 s.2.2.2 (fun l4 l5 l6 b2 => next (l4, l5, l6, b2))) (fun (s : List Bool × List Int × List Int × Int) => Q ⟨l, s.1, s.2.1, s.2.2.1, s.2.2.2⟩) l 0 (u, now, best, most)) := fun hnp => by
      refine cnd_of (fun e => by simp at e; omega) (fun e => ?_)
      let v : Nat → Int := fun k => nfar p (pt l k) + Short.R nfar (pt l) l.length c (Short.wo (PU u) k) (pt l k)
      let w : Nat → List Int := fun k => now ++ ((k : Int) :: Short.O nfar (pt l) l.length c (Short.wo (PU u) k) (pt l k))
      let f : List Int × Int → Nat → List Int × Int := fun st k => if 0 ≤ st.2 ∧ st.2 ≤ sum + v k then st else (w k, sum + v k)
      refine forIn0 (fun k s => s = (u, now, ((pre (PU u) k).foldl f (best, most)).1, ((pre (PU u) k).foldl f (best, most)).2)) rfl (fun k x s hx hI next hnx => ?_) (fun s hI => ?_)
      · subst hI
        have hk := lt_of_get hx
        have hxp : x = pt l k := by unfold pt; rw [List.getD_eq_getElem?_getD, hx]; rfl
        have hX := hnx _ rfl
        rw [pre_succ] at hX
        unfold M_ref8_goOn_L1
        dsimp only
        have hku : k < u.length := by omega
        refine idx_nat (List.getElem?_eq_getElem hku) ?_
        have hPk : PU u k = !u[k] := by unfold PU; rw [List.getD_eq_getElem?_getD, List.getElem?_eq_getElem hku]; rfl
        refine cnd_of (fun eu => ?_) (fun eu => ?_)
        · rw [hPk, eu] at hX
          simpa using hX
        · have hPt : PU u k = true := by rw [hPk, eu]; rfl
          rw [hPt, if_pos rfl, List.foldl_append, List.foldl_cons, List.foldl_nil] at hX
          have hkr : k ∈ Short.rest l.length (PU u) := Short.mem_rest.2 ⟨hk, hPt⟩
          have hlen := Short.len_wo hkr hc
          have hb := R_bound l c (Short.wo (PU u) k) (pt l k) hlen
          have hnf := nfar_bound p (pt l k)
          have hfe : rdist p x = nfar p (pt l k) := by rw [hxp, ← far_eq, nfar_eq hp (pt_ok hl k)]
          have hnl : now.length ≤ 10 := by omega
          refine ⟨room_of (by simp; omega) (by omega), ?_⟩
          rw [hfe, w64_id (by omega) (by omega)]
          refine ih (u.set k true) (now ++ [(k : Int)]) _ _ (sum + nfar p (pt l k)) x _ (by simpa using hu) (by rw [← wo_PU hku]; exact hlen) (by simp; omega) (hxp ▸ pt_ok hl k) (by omega) (by simp; omega) ?_
          dsimp only
          have hw : w64 (((now ++ [(k : Int)]).length : Int) - 1) = (now.length : Int) := by rw [List.length_append]; simp; rw [w64_id] <;> omega
          rw [hw]
          refine ⟨⟨Int.natCast_nonneg _, by simp; omega⟩, idx_nat (x := true) (by rw [List.getElem?_set, if_pos rfl, if_pos hku]) ?_⟩
          have hset : (u.set k true).set k false = u := by
            rw [List.set_set]
            refine List.ext_getElem? (fun i => ?_)
            rw [List.getElem?_set]
            by_cases hi : k = i
            · subst hi; rw [if_pos rfl, if_pos hku, List.getElem?_eq_getElem hku, eu]
            · rw [if_neg hi]
          rw [hset, Int.toNat_natCast, List.take_left' rfl]
          have key : finS l (now ++ [(k : Int)]) ((pre (PU u) k).foldl f (best, most)).1 (sum + nfar p (pt l k)) ((pre (PU u) k).foldl f (best, most)).2 c (PU (u.set k true)) x = f ((pre (PU u) k).foldl f (best, most)) k := by
            show finS _ _ _ _ _ _ _ _ = if _ then _ else _
            unfold finS
            rw [← wo_PU hku, hxp]
            show _ = if 0 ≤ ((pre (PU u) k).foldl f (best, most)).2 ∧ ((pre (PU u) k).foldl f (best, most)).2 ≤ sum + (nfar p (pt l k) + Short.R nfar (pt l) l.length c (Short.wo (PU u) k) (pt l k)) then _ else (now ++ ((k : Int) :: Short.O nfar (pt l) l.length c (Short.wo (PU u) k) (pt l k)), sum + (nfar p (pt l k) + Short.R nfar (pt l) l.length c (Short.wo (PU u) k) (pt l k)))
            rw [Int.add_assoc, List.append_assoc]
            rfl
          rw [key]
          exact hX
      · subst hI
        have hpr := Short.prune v w sum h0 (best, most) (pre (PU u) l.length) (fun k hk => by
          have hb := (R_bound l c (Short.wo (PU u) k) (pt l k) (Short.len_wo hk hc)).1
          have hnf := nfar_bound p (pt l k)
          show 0 ≤ nfar p (pt l k) + _
          omega)
        have hpre : pre (PU u) l.length = Short.rest l.length (PU u) := rfl
        show Q ⟨l, u, now, ((pre (PU u) l.length).foldl f (best, most)).1, ((pre (PU u) l.length).foldl f (best, most)).2⟩
        have hff : (pre (PU u) l.length).foldl f (best, most) = finS l now best sum most (c + 1) (PU u) p := by
          refine Eq.trans hpr ?_
          have hne : ¬ pre (PU u) l.length = [] := by rw [hpre]; intro e; rw [e] at hc; simp at hc
          simp only [hne, false_or]
          have hz : ((Short.sel v (pre (PU u) l.length)).1.toNat : Int) = (Short.sel v (pre (PU u) l.length)).1 := by
            rcases Short.sel_spec v (pre (PU u) l.length) with ⟨h0, _⟩ | ⟨_, h1, _⟩
            · exact absurd h0 hne
            · omega
          show (if _ then _ else (now ++ (((Short.sel v (pre (PU u) l.length)).1.toNat : Int) :: Short.O nfar (pt l) l.length c (Short.wo (PU u) (Short.sel v (pre (PU u) l.length)).1.toNat) (pt l (Short.sel v (pre (PU u) l.length)).1.toNat)), sum + (Short.sel v (pre (PU u) l.length)).2)) = _
          rw [hz]
          unfold finS
          rw [R_succ, O_succ]
          rfl
        rw [hff]; exact h
    have hidle : 0 ≤ most → most ≤ sum → finS l now best sum most (c + 1) (PU u) p = (best, most) := fun a b => by
      unfold finS; rw [if_pos ⟨a, by omega⟩]
    refine cnd_of (fun e => cnd_of (fun e2 => ?_) (fun e2 => ?_)) (fun e => cnd_of (fun e => by cases e) (fun _ => ?_))
    · rw [hidle (by simpa using e) (by simpa using e2)] at h; exact h
    · exact fin (by simp at e2; omega)
    · exact fin (by simp at e; omega)
theorem PU_full (l : List Point) : PU (List.replicate l.length false) = PB (fullSet l) := by
  funext i
  unfold PU PB fullSet
  rw [Nat.testBit_two_pow_sub_one, List.getD_eq_getElem?_getD, List.getElem?_replicate]
  by_cases h : i < l.length <;> simp [h]
theorem S_ref8_Shortest {l : List Point} {fr : Point} {Q : List Int → Int → Int → Prop} (h : Q (shortOut l fr).1 (shortOut l fr).2.1 (shortOut l fr).2.2) : M_ref8_Shortest l fr Q := by
  unfold M_ref8_Shortest
  unfold shortOut at h
  refine S_ref8_askPoints (by omega) (cnd_of (fun e => ?_) (fun e => ?_))
  · rw [if_pos (by simpa using e)] at h; exact h
  have e0 : pointsFault l fr 10 = 0 := by simpa using e
  rw [if_neg (by simpa using e)] at h
  obtain ⟨hfr, hl, hn⟩ := points_ok e0
  have hcnt : (Short.rest l.length (PU (List.replicate l.length false))).length = l.length := by
    unfold Short.rest
    rw [List.filter_eq_self.2 (fun i hi => ?_)]
    · simp
    · have := List.mem_range.1 hi
      unfold PU; rw [List.getD_eq_getElem?_getD, List.getElem?_replicate, if_pos this]; rfl
  refine ⟨⟨Int.natCast_nonneg _, by omega⟩, l.length + 1, S_goOn hl (by omega) l.length _ [] [] (-1) 0 fr _ (by simp) hcnt (by simp) hfr (Int.le_refl _) (by simp) ?_⟩
  unfold finS
  rw [if_neg (by omega)]
  have hc2 : cnt l.length (fullSet l) = l.length := by unfold cnt; rw [← PU_full]; exact hcnt
  rw [PU_full]
  unfold OS RS at h
  rw [hc2] at h
  simpa using h
theorem law_Shortest_true (l : List Point) (fr : Point) : M_law_Shortest l fr (· = true) := by
  unfold M_law_Shortest
  refine S_drill_Shortest (S_ref8_Shortest ?_)
  simp only [beq_self_eq_true, cnd_true]
  refine S_equal_int ?_
  simp only [decide_true, cnd_true]
  exact S_awake rfl
/-! ### the orders -/
theorem turned_perm {o : List Int} {i j : Nat} (hij : i < j) : (turned o i j).Perm o := by
  unfold turned
  have h1 : (o.take i ++ ((o.drop i).take (j + 1 - i)).reverse ++ o.drop (j + 1)).Perm (o.take i ++ ((o.drop i).take (j + 1 - i)) ++ o.drop (j + 1)) :=
    List.Perm.append_right _ (List.Perm.append_left _ (List.reverse_perm _))
  refine h1.trans (List.Perm.of_eq ?_)
  have h2 : o.drop (j + 1) = (o.drop i).drop (j + 1 - i) := by rw [List.drop_drop]; congr 1; omega
  rw [h2, List.append_assoc, List.take_append_drop, List.take_append_drop]
theorem firstTurn_perm {l : List Point} {fr : Point} {o o' : List Int} (h : firstTurn l fr o = some o') : o'.Perm o := by
  obtain ⟨i, _, hi, h1⟩ := ff_some _ _ h
  obtain ⟨d, _, hd, h2⟩ := ff_some _ _ h1
  unfold tryTurn at h2
  split at h2
  · injection h2 with h2; subst h2; exact turned_perm (by omega)
  · cases h2
theorem betterTo_ok {l : List Point} {fr : Point} : ∀ (c : Nat) (o : List Int), Valid l o → (betterTo l fr c o).Perm o ∧ lenOrd l fr (betterTo l fr c o) ≤ lenOrd l fr o ∧ Valid l (betterTo l fr c o)
  | 0, o, hv => ⟨List.Perm.refl _, Int.le_refl _, hv⟩
  | c + 1, o, hv => by
    unfold betterTo
    cases h : firstTurn l fr o with
    | none => exact ⟨List.Perm.refl _, Int.le_refl _, hv⟩
    | some o' =>
      obtain ⟨h1, h2⟩ := firstTurn_ok hv h
      obtain ⟨i1, i2, i3⟩ := betterTo_ok (l := l) (fr := fr) c o' h1
      exact ⟨i1.trans (firstTurn_perm h), by simp only; omega, i3⟩
theorem greedy_nodup (l : List Point) (fr : Point) : (greedyOf l fr).Nodup := by
  have key : ∀ k, k ≤ l.length → (runTo l fr k).1.Nodup ∧ (∀ x ∈ (runTo l fr k).1, 0 ≤ x ∧ (runTo l fr k).2.1.getD x.toNat true = true) := by
    intro k
    induction k with
    | zero => intro _; simp [runTo]
    | succ k ih =>
      intro hk
      obtain ⟨h1, h2⟩ := ih (by omega)
      have hc := (runTo_count l fr k (by omega)).2 (by omega)
      have hlt := bestTo_lt l (runTo l fr k).2.1 (runTo l fr k).2.2 l.length
      have hlen := runTo_len l fr k
      simp only [runTo]
      generalize bestTo l (runTo l fr k).2.1 (runTo l fr k).2.2 l.length = b at *
      have hb : (runTo l fr k).2.1.getD b.toNat true = false := by
        rcases hlt with h | h
        · omega
        · exact h.2.2
      refine ⟨List.nodup_append.2 ⟨h1, by simp, fun x hx y hy => ?_⟩, fun x hx => ?_⟩
      · simp at hy; subst hy; intro e; subst e
        have := (h2 x hx).2; rw [hb] at this; cases this
      · rcases List.mem_append.1 hx with hx | hx
        · refine ⟨(h2 x hx).1, ?_⟩
          rw [List.getD_eq_getElem?_getD, List.getElem?_set]
          have := (h2 x hx).2
          rw [List.getD_eq_getElem?_getD] at this
          split
          · split <;> rfl
          · exact this
        · simp at hx; subst hx
          refine ⟨hc.1, ?_⟩
          rw [List.getD_eq_getElem?_getD, List.getElem?_set, if_pos rfl]
          split <;> rfl
  exact (key l.length (Nat.le_refl _)).1
theorem valid_isP {l : List Point} {o : List Int} (hv : Valid l o) (hd : o.Nodup) : IsP l.length o ∧ o.length = l.length := ⟨⟨hd, hv.2⟩, hv.1⟩
theorem S_Length {l : List Point} {fr : Point} (hfr : Pt fr) (hl : ∀ q ∈ l, Pt q) (hn : l.length ≤ 1000) {o : List Int} (ho : IsP l.length o ∧ o.length = l.length) {Q : Int → Prop} (h : Q (lenOrd l fr o)) : M_ref8_Length l fr o Q := by
  unfold M_ref8_Length
  refine S_ref8_IsOrder (by omega) ?_
  rw [decide_eq_true ho]
  simp only [Bool.not_true, cnd_false]
  exact S_ref8_length hfr hl ho.1.2 (by omega) h
theorem plen_eq {l : List Point} (hl : ∀ q ∈ l, Pt q) : ∀ (o : List Int) (p : Point), Pt p → Short.plen nfar (pt l) p o = lenOrd l p o
  | [], p, _ => rfl
  | x :: o, p, hp => by
    unfold Short.plen
    have := plen_eq hl o (pt l x.toNat) (pt_ok hl _)
    rw [this, ← nfar_eq hp (pt_ok hl _)]
    rfl
theorem rest_full (l : List Point) : Short.rest l.length (PB (fullSet l)) = List.range l.length := by
  unfold Short.rest
  refine List.filter_eq_self.2 (fun i hi => ?_)
  unfold PB fullSet
  rw [Nat.testBit_two_pow_sub_one]
  simpa using hi
theorem isP_perm {n : Nat} {o : List Int} (h : IsP n o) (hl : o.length = n) : (o.map Int.toNat).Perm (List.range n) := by
  have h1 : (o.map Int.toNat).Nodup := by
    rw [List.nodup_iff_pairwise_ne, List.pairwise_map]
    refine List.Pairwise.imp_of_mem (fun {x y} hx hy hne => ?_) h.1
    have := h.2 x hx; have := h.2 y hy; omega
  have h2 : ∀ x ∈ o.map Int.toNat, x < n := fun x hx => by
    obtain ⟨y, hy, rfl⟩ := List.mem_map.1 hx
    have := h.2 y hy; omega
  have key : ∀ (n : Nat) (m : List Nat), m.Nodup → (∀ x ∈ m, x < n) → m.length = n → m.Perm (List.range n) := by
    intro n
    induction n with
    | zero => intro m _ _ hm; rw [List.eq_nil_of_length_eq_zero hm]; exact List.Perm.refl _
    | succ n ih =>
      intro m hd hlt hm
      have hnm : n ∈ m := by
        refine Decidable.byContradiction (fun hc => ?_)
        have hle : ∀ (n : Nat) (m : List Nat), m.Nodup → (∀ x ∈ m, x < n) → m.length ≤ n := by
          intro n
          induction n with
          | zero => intro m _ h; cases m with
            | nil => exact Nat.le_refl _
            | cons x r => exact absurd (h x (List.mem_cons_self ..)) (by omega)
          | succ n ih =>
            intro m hd h
            have h2 := ih (m.erase n) (hd.erase n) (fun x hx => by
              have h3 := (hd.mem_erase_iff).1 hx
              have := h x h3.2; have := h3.1; omega)
            rw [List.length_erase] at h2
            split at h2 <;> omega
        have := hle n m hd (fun x hx => by
          have h5 := hlt x hx
          have hxn : x ≠ n := fun e => hc (e ▸ hx)
          omega)
        omega
      have hp := ih (m.erase n) (hd.erase n) (fun x hx => by
        have h3 := (hd.mem_erase_iff).1 hx
        have := hlt x h3.2; have := h3.1; omega) (by rw [List.length_erase_of_mem hnm]; omega)
      rw [List.range_succ]
      exact (List.perm_cons_erase hnm).trans ((List.Perm.cons n hp).trans (by
        have := List.perm_append_comm (l₁ := [n]) (l₂ := List.range n); simpa using this))
  exact key n _ h1 h2 (by simpa using hl)
theorem short_valid (l : List Point) (fr : Point) : IsP l.length (OS l (fullSet l) fr) ∧ (OS l (fullSet l) fr).length = l.length := by
  obtain ⟨_, h2, h3⟩ := Short.O_spec (dist := nfar) (l := pt l) (n := l.length) (cnt l.length (fullSet l)) (PB (fullSet l)) fr rfl
  rw [rest_full] at h2
  have hlen := h2.length_eq
  simp at hlen
  refine ⟨⟨?_, fun x hx => ?_⟩, hlen⟩
  · have := h2.nodup_iff.2 List.nodup_range
    exact List.nodup_iff_pairwise_ne.2 ((List.pairwise_map.1 (List.nodup_iff_pairwise_ne.1 this)).imp (fun h e => h (by rw [e])))
  · have h4 := h3 x hx
    have := List.mem_range.1 (h2.subset (List.mem_map_of_mem (f := Int.toNat) hx))
    omega
theorem lenOrd_nonneg {l : List Point} {fr : Point} (hfr : Pt fr) (hl : ∀ q ∈ l, Pt q) (o : List Int) : 0 ≤ lenOrd l fr o := by
  rw [← plen_eq hl o fr hfr]
  have : ∀ (o : List Int) (p : Point), 0 ≤ Short.plen nfar (pt l) p o := by
    intro o
    induction o with
    | nil => intro p; exact Int.le_refl _
    | cons x o ih => intro p; unfold Short.plen; have := ih (pt l x.toNat); have := nfar_bound p (pt l x.toNat); omega
  exact this o fr
theorem law_Orders_true (l : List Point) (fr : Point) : M_law_Orders l fr (· = true) := by
  unfold M_law_Orders
  have aw : M_awake (fun y => y = true) := S_awake rfl
  refine S_drill_Greedy ?_
  split
  · rename_i e0
    refine S_drill_Better ?_
    rw [if_pos e0]
    obtain ⟨hfr, hl, hn⟩ := points_ok e0
    simp only [bne_self_eq_false, cnd_false]
    have hgv := greedy_valid l fr
    obtain ⟨hb1, hb2, hb3⟩ := betterTo_ok (fr := fr) 5000 (greedyOf l fr) hgv
    have hgP := valid_isP hgv (greedy_nodup l fr)
    have hbP : IsP l.length (betterOf l fr) ∧ (betterOf l fr).length = l.length := valid_isP hb3 (hb1.nodup_iff.2 (greedy_nodup l fr))
    unfold M_law_Orders_k1 M_law_Orders_k2
    simp only [cnd_false]
    refine S_Length hfr hl (by omega) hgP (S_Length hfr hl (by omega) hbP ?_)
    have h1 := lenOrd_nonneg hfr hl (greedyOf l fr)
    have h2 := lenOrd_nonneg hfr hl (betterOf l fr)
    rw [decide_eq_false (show ¬ lenOrd l fr (greedyOf l fr) < 0 by omega), decide_eq_false (show ¬ lenOrd l fr (betterOf l fr) < 0 by omega),
      decide_eq_false (show ¬ lenOrd l fr (betterOf l fr) > lenOrd l fr (greedyOf l fr) by have : lenOrd l fr (betterOf l fr) ≤ lenOrd l fr (greedyOf l fr) := hb2; omega)]
    simp only [cnd_false]
    refine S_awake ?_
    simp only [Bool.not_true, cnd_false]
    refine S_drill_Shortest ?_
    unfold shortOut
    split
    · rename_i ef
      have hf2 : pointsFault l fr 10 = 2 := by
        unfold pointsFault at e0 ef ⊢
        split
        · rfl
        · rename_i hle
          rw [if_neg hle] at ef
          rw [if_neg (by omega)] at e0
          exact absurd e0 ef
      rw [hf2]
      simp
    · rename_i ef
      have ef0 : pointsFault l fr 10 = 0 := Decidable.not_not.1 ef
      simp only [bne_self_eq_false, cnd_false]
      have hsv := short_valid l fr
      refine S_Length hfr hl (by omega) hsv ?_
      have hlen : lenOrd l fr (OS l (fullSet l) fr) = RS l (fullSet l) fr := by
        rw [← plen_eq hl _ fr hfr]
        exact (Short.O_spec (dist := nfar) (l := pt l) (n := l.length) (cnt l.length (fullSet l)) (PB (fullSet l)) fr rfl).1
      rw [hlen]
      simp only [beq_self_eq_true, cnd_true]
      have hle := Short.R_le (dist := nfar) (l := pt l) (n := l.length) (cnt l.length (fullSet l)) (PB (fullSet l)) fr (betterOf l fr) rfl (by rw [rest_full]; exact isP_perm hbP.1 hbP.2)
      rw [plen_eq hl _ fr hfr] at hle
      exact decide_eq_true hle
  · rename_i e0
    refine S_drill_Better ?_
    rw [if_neg e0]
    have : (pointsFault l fr 200 != 0) = true := by simpa using e0
    rw [this]
    unfold M_law_Orders_k1
    simp only [cnd_true, beq_self_eq_true]
    exact cnd_of (fun _ => cnd_of (fun _ => aw) (fun e => by simp at e)) (fun e => by simp at e)
end Go.Proofs.Ytmopdabkfklefaa

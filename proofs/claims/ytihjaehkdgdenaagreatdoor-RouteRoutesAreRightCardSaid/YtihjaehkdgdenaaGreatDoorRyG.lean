/- Chapter texts of ours, as far as the claim needs them. -/
import Derived.Test.YtihjaehkdgdenaaGreatDoorRyF
namespace Go.Proofs.YtihjaehkdgdenaaGreatDoor
open Go Go.RowKit
set_option linter.unusedVariables false
set_option linter.unusedSectionVars false
set_option linter.unusedSimpArgs false
inductive Cn (W : List (List Cell)) : Cell → Cell → Prop
  | refl (c : Cell) : Cn W c c
  | step {a b c : Cell} (h : Cn W a b) (w : List Cell) (hw : w ∈ W) (hb : b ∈ w) (hc : c ∈ w) : Cn W a c
theorem Cn.trans {W : List (List Cell)} {a b c : Cell} (h : Cn W a b) (h' : Cn W b c) : Cn W a c := by
  induction h' with
  | refl => exact h
  | step _ w hw hb hc ih => exact .step ih w hw hb hc
theorem Cn.symm {W : List (List Cell)} {a b : Cell} (h : Cn W a b) : Cn W b a := by
  induction h with
  | refl => exact .refl _
  | step _ w hw hb hc ih => exact (Cn.step (.refl _) w hw hc hb).trans ih
def Tog (pins : List Cell) (W : List (List Cell)) : Prop := ∀ p0, pins[0]? = some p0 → ∀ c, (c ∈ pins ∨ ∃ w ∈ W, c ∈ w) → Cn W p0 c
structure AtOk (m : List (Cell × Int)) (cs : List Cell) : Prop where
  len : m.length = cs.length
  get : ∀ c k, mget m c = some k → ∃ n : Nat, k = (n : Int) ∧ cs[n]? = some c
  at_ : ∀ (n : Nat) c, cs[n]? = some c → mget m c = some (n : Int)
theorem AtOk.inj {m : List (Cell × Int)} {cs : List Cell} (h : AtOk m cs) {i j : Nat} {c : Cell} (hi : cs[i]? = some c) (hj : cs[j]? = some c) : i = j := by
  have h1 := h.at_ i c hi
  rw [h.at_ j c hj] at h1
  injection h1 with h1; omega
theorem mput_len {K V : Type} [DecidableEq K] (k : K) (v : V) : ∀ m : List (K × V), mget m k = none → (mput m k v).length = m.length + 1
  | [], _ => rfl
  | (k', v') :: r, h => by
    unfold mget at h
    rw [List.find?_cons] at h
    by_cases e : k' = k
    · subst e; simp at h
    · have : decide (k' = k) = false := decide_eq_false e
      simp only [this] at h
      have ih := mput_len k v r h
      unfold mput
      rw [if_neg e, List.length_cons, ih, List.length_cons]
theorem S_place {m : List (Cell × Int)} {cs : List Cell} (hA : AtOk m cs) (c : Cell) {Q : Int → List (Cell × Int) → Prop}
    (h : ∀ m' (t : List Cell) (n : Nat), AtOk m' (cs ++ t) → (cs ++ t)[n]? = some c → (∀ x ∈ t, x = c) → t.length ≤ 1 → Q (n : Int) m') : M_together1 c m Q := by
  unfold M_together1
  cases e : mget m c with
  | some k =>
    obtain ⟨n, hk, hn⟩ := hA.get c k e
    refine cnd_of (fun e' => by simp at e') (fun _ => ?_)
    rw [Option.getD_some, hk]
    exact h m [] n (by rw [List.append_nil]; exact hA) (by rw [List.append_nil]; exact hn) (fun x hx => by cases hx) (by simp)
  | none =>
    refine cnd_of (fun _ => ?_) (fun e' => by simp at e')
    rw [hA.len]
    have hno : c ∉ cs := fun hc => by
      obtain ⟨n, hn⟩ := List.getElem?_of_mem hc
      rw [hA.at_ n c hn] at e; cases e
    refine h _ [c] cs.length ⟨by rw [mput_len c _ m e, hA.len, List.length_append]; rfl, fun c' k hk => ?_, fun n c' hn => ?_⟩ (by simp) (fun x hx => List.mem_singleton.1 hx) (by simp)
    · rw [mget_put] at hk
      by_cases ec : c = c'
      · subst ec; rw [if_pos rfl] at hk; injection hk with hk
        exact ⟨cs.length, hk.symm, by simp⟩
      · rw [if_neg ec] at hk
        obtain ⟨n, h1, h2⟩ := hA.get c' k hk
        exact ⟨n, h1, by rw [List.getElem?_append_left (lt_of_get h2)]; exact h2⟩
    · rw [mget_put]
      rcases Nat.lt_or_ge n cs.length with h1 | h1
      · rw [List.getElem?_append_left h1] at hn
        rw [if_neg (fun (ec : c = c') => hno (by rw [ec]; exact List.mem_of_getElem? hn))]
        exact hA.at_ n c' hn
      · rw [List.getElem?_append_right h1] at hn
        have e0 : n - cs.length = 0 := by have := lt_of_get hn; simp at this; omega
        rw [e0] at hn
        have : c = c' := by simpa using hn
        subst this
        rw [if_pos rfl]
        congr 1; omega
structure EdOk (pins : List Cell) (W : List (List Cell)) (k : Nat) (cs : List Cell) (l : List Arr2) : Prop where
  sound : ∀ e ∈ l, ∃ (a b : Nat) (x y : Cell), e = ⟨(a : Int), (b : Int)⟩ ∧ cs[a]? = some x ∧ cs[b]? = some y ∧ Cn W x y
  full : ∀ w ∈ W.take k, ∃ f, w[0]? = some f ∧ ∀ c ∈ w, ∃ a b : Nat, (⟨(a : Int), (b : Int)⟩ : Arr2) ∈ l ∧ cs[a]? = some f ∧ cs[b]? = some c
  mem : ∀ c ∈ cs, c ∈ pins ∨ ∃ w ∈ W, c ∈ w
  pin : ∀ c ∈ pins, c ∈ cs
theorem get_more {cs t : List Cell} {n : Nat} {c : Cell} (h : cs[n]? = some c) : (cs ++ t)[n]? = some c := by rw [List.getElem?_append_left (lt_of_get h)]; exact h
theorem EdOk.more {pins : List Cell} {W : List (List Cell)} {k : Nat} {cs t : List Cell} {l : List Arr2} (h : EdOk pins W k cs l) (ht : ∀ x ∈ t, x ∈ pins ∨ ∃ w ∈ W, x ∈ w) : EdOk pins W k (cs ++ t) l :=
  ⟨fun e he => by obtain ⟨a, b, x, y, h1, h2, h3, h4⟩ := h.sound e he; exact ⟨a, b, x, y, h1, get_more h2, get_more h3, h4⟩,
   fun w hw => by obtain ⟨f, hf, h2⟩ := h.full w hw; exact ⟨f, hf, fun c hc => by obtain ⟨a, b, h3, h4, h5⟩ := h2 c hc; exact ⟨a, b, h3, get_more h4, get_more h5⟩⟩,
   fun c hc => (List.mem_append.1 hc).elim (h.mem c) (ht c), fun c hc => List.mem_append_left _ (h.pin c hc)⟩
open Classical in
theorem S_together {pins : List Cell} {p0 : Cell} {W : List (List Cell)} (hp : pins[0]? = some p0) (hpl : pins.length ≤ 50) (hW : W.length ≤ 50) (hl : ∀ w ∈ W, w.length ≤ 40000) (hne : ∀ w ∈ W, w ≠ []) {Q : Bool → Prop} (h : Q (decide (Tog pins W))) : M_route_together pins W Q := by
  unfold M_route_together
  refine forIn0 (fun k (m : List (Cell × Int)) => ∃ cs, AtOk m cs ∧ (∀ c ∈ cs, c ∈ pins) ∧ (∀ c ∈ pins.take k, c ∈ cs) ∧ (0 < k → cs[0]? = some p0) ∧ (k = 0 → cs = []) ∧ cs.length ≤ k) ⟨[], ⟨rfl, fun c k hk => (by cases hk), fun n c hn => (by cases hn)⟩, fun c hc => (by cases hc), fun c hc => (by simp at hc), fun h0 => (by omega), fun _ => rfl, Nat.le_refl _⟩ (fun k x m hx hI next hn => ?_) (fun m hI => ?_)
  · obtain ⟨cs, hA, h1, h2, h3, h4, h5⟩ := hI
    unfold M_route_together_L1
    refine S_place hA x fun m' t n hA' hn' ht htl => hn _ ⟨cs ++ t, hA', fun c hc => ?_, fun c hc => ?_, fun _ => ?_, fun h0 => by omega, by rw [List.length_append]; omega⟩
    · rcases List.mem_append.1 hc with h6 | h6
      · exact h1 c h6
      · rw [ht c h6]; exact List.mem_of_getElem? hx
    · rw [List.take_add_one, hx] at hc
      rcases List.mem_append.1 hc with h6 | h6
      · exact List.mem_append_left _ (h2 c h6)
      · have : c = x := by simpa using h6
        rw [this]; exact List.mem_of_getElem? hn'
    · rcases Nat.eq_zero_or_pos k with hk | hk
      · subst hk
        rw [h4 rfl] at hn' ⊢
        rw [hp] at hx; injection hx with hx; subst hx
        simp only [List.nil_append] at hn' ⊢
        have : n = 0 := by have := lt_of_get hn'; omega
        rw [this] at hn'; exact hn'
      · exact get_more (h3 hk)
  obtain ⟨cs0, hA0, hm0, hpin0, h00, _, hl0⟩ := hI
  rw [List.take_length] at hpin0
  have h00 := h00 (by have := lt_of_get hp; omega)
  show forIn' _ _ W 0 (m, ([] : List Arr2))
  have base : EdOk pins W 0 cs0 [] := ⟨fun e he => (by cases he), fun w hw => (by simp at hw), fun c hc => .inl (hm0 c hc), hpin0⟩
  refine forIn0 (fun k (s : List (Cell × Int) × List Arr2) => ∃ cs, AtOk s.1 cs ∧ EdOk pins W k cs s.2 ∧ cs[0]? = some p0 ∧ cs.length ≤ 50 + 40000 * k ∧ s.2.length ≤ 40000 * k) ⟨cs0, hA0, base, h00, by omega, by simp⟩ (fun k w s hw hI next hn => ?_) (fun s hI => ?_)
  · obtain ⟨cs, hA, hE, h0, hcl, hsl⟩ := hI
    have hwW := List.mem_of_getElem? hw
    have hkW := lt_of_get hw
    have hwl := hl w hwW
    unfold M_route_together_L2
    obtain ⟨f, w', rfl⟩ : ∃ f w', w = f :: w' := by cases w with | nil => exact absurd rfl (hne _ hwW) | cons f w' => exact ⟨f, w', rfl⟩
    refine idx_nat (i := 0) (x := f) rfl (S_place hA f fun m1 t1 a hA1 ha ht1 htl1 => ?_)
    have hfw : ∀ x ∈ t1, x ∈ pins ∨ ∃ w ∈ W, x ∈ w := fun x hx => by rw [ht1 x hx]; exact .inr ⟨_, hwW, List.mem_cons_self ..⟩
    refine forIn0 (fun j (s2 : List (Cell × Int) × List Arr2) => ∃ cs2, AtOk s2.1 cs2 ∧ EdOk pins W k cs2 s2.2 ∧ cs2[0]? = some p0 ∧ cs2[a]? = some f ∧ cs2.length ≤ 51 + 40000 * k + j ∧ s2.2.length ≤ 40000 * k + j ∧ cs2.length ≤ cs.length + 1 + j ∧ (∀ c ∈ (f :: w').take j, ∃ b : Nat, (⟨(a : Int), (b : Int)⟩ : Arr2) ∈ s2.2 ∧ cs2[b]? = some c) ∧ (0 < j → cs2.length ≤ cs.length + j)) ⟨cs ++ t1, hA1, hE.more hfw, get_more h0, ha, by rw [List.length_append]; omega, by simpa using hsl, by rw [List.length_append]; omega, fun c hc => (by simp at hc), fun h0 => (by omega)⟩ (fun j c s2 hc hJ next2 hn2 => ?_) (fun s2 hJ => ?_)
    · obtain ⟨cs2, hA2, hE2, h02, hf2, hl2, hsl2, hl3, hd2, hl4⟩ := hJ
      have hcw := List.mem_of_getElem? hc
      have hj := lt_of_get hc
      unfold M_route_together_L5
      refine S_place hA2 c fun m3 t3 b hA3 hb ht3 htl3 => ⟨⟨by rw [List.length_append, List.length_singleton]; omega, by rw [List.length_append, List.length_singleton]; omega⟩, hn2 _ ⟨cs2 ++ t3, hA3, ?_, get_more h02, get_more hf2, by rw [List.length_append]; omega, by rw [List.length_append, List.length_singleton]; omega, by rw [List.length_append]; omega, ?_, ?_⟩⟩
      · have h6 := hE2.more (t := t3) (fun x hx => by rw [ht3 x hx]; exact .inr ⟨_, hwW, hcw⟩)
        refine ⟨fun e he => ?_, fun w2 hw2 => ?_, h6.mem, h6.pin⟩
        · rcases List.mem_append.1 he with he | he
          · exact h6.sound e he
          · rw [List.mem_singleton.1 he]
            exact ⟨a, b, f, c, rfl, get_more hf2, hb, .step (.refl _) _ hwW (List.mem_cons_self ..) hcw⟩
        · obtain ⟨f2, hf2', h7⟩ := h6.full w2 hw2
          exact ⟨f2, hf2', fun c2 hc2 => by obtain ⟨a2, b2, h8, h9⟩ := h7 c2 hc2; exact ⟨a2, b2, List.mem_append_left _ h8, h9⟩⟩
      · intro c2 hc2
        rw [List.take_add_one, hc] at hc2
        rcases List.mem_append.1 hc2 with h7 | h7
        · obtain ⟨b2, h8, h9⟩ := hd2 c2 h7
          exact ⟨b2, List.mem_append_left _ h8, get_more h9⟩
        · have : c2 = c := by simpa using h7
          rw [this]; exact ⟨b, List.mem_append_right _ (List.mem_singleton.2 rfl), hb⟩
      · intro _
        rw [List.length_append]
        rcases Nat.eq_zero_or_pos j with hj0 | hj0
        · subst hj0
          have ec : c = f := by have : (f :: w')[0]? = some f := rfl
                                rw [this] at hc; injection hc with hc; exact hc.symm
          subst ec
          have : t3 = [] := by
            cases t3 with
            | nil => rfl
            | cons x r =>
              have hx := ht3 x (List.mem_cons_self ..)
              subst hx
              have h7 : (cs2 ++ x :: r)[cs2.length]? = some x := by simp
              have := hA3.inj h7 (get_more hf2)
              have := lt_of_get hf2
              omega
          rw [this]; simp; omega
        · have := hl4 hj0; omega
    · obtain ⟨cs2, hA2, hE2, h02, hf2, hl2, hsl2, hl3, hd2, hl4⟩ := hJ
      rw [List.take_length] at hd2
      have hlw : (f :: w').length ≤ 40000 := hwl
      have := hl4 (by simp)
      refine hn _ ⟨cs2, hA2, ⟨hE2.sound, fun w2 hw2 => ?_, hE2.mem, hE2.pin⟩, h02, by omega, by show s2.2.length ≤ _; omega⟩
      rw [List.take_add_one, hw] at hw2
      rcases List.mem_append.1 hw2 with h7 | h7
      · exact hE2.full w2 h7
      · have : w2 = f :: w' := by simpa using h7
        subst this
        exact ⟨f, rfl, fun c hc => by obtain ⟨b, h8, h9⟩ := hd2 c hc; exact ⟨a, b, h8, hf2, h9⟩⟩
  obtain ⟨cs, hA, hE, h0, hcl, hsl⟩ := hI
  have hN : cs.length ≤ 3000000 := by omega
  show M_NewUnion (s.1.length : Int) _
  rw [hA.len]
  refine S_NewUnion hN ?_
  obtain ⟨ok0, same0⟩ := init_uf cs.length
  refine forIn0 (fun k (up : List Int) => UfOk cs.length up ∧ (∀ i j, Same up i j → ∀ x y, cs[i]? = some x → cs[j]? = some y → Cn W x y) ∧ (∀ a b : Nat, (⟨(a : Int), (b : Int)⟩ : Arr2) ∈ s.2.take k → Same up a b)) ⟨ok0, fun i j hs x y hx hy => ?_, fun a b hab => (by simp at hab)⟩ (fun k e up he hI next hn => ?_) (fun up hI => ?_)
  · have := same0 i j hs
    subst this; rw [hx] at hy; injection hy with hy; subst hy; exact .refl _
  · obtain ⟨ok, hs, hc⟩ := hI
    obtain ⟨a, b, x, y, rfl, hx, hy, hxy⟩ := hE.sound e (List.mem_of_getElem? he)
    unfold M_route_together_L4
    refine S_Join ok (lt_of_get hx) (lt_of_get hy) fun up' ok' h1 h2 h3 => hn _ ⟨ok', fun i j hij u v hu hv => ?_, fun a2 b2 hab => ?_⟩
    · rcases h3 i j hij with h4 | ⟨h4, h5⟩ | ⟨h4, h5⟩
      · exact hs i j h4 u v hu hv
      · exact (hs i a h4 u x hu hx).trans (hxy.trans (hs b j h5 y v hy hv))
      · exact (hs i b h4 u y hu hy).trans (hxy.symm.trans (hs a j h5 x v hx hv))
    · rw [List.take_add_one, he] at hab
      rcases List.mem_append.1 hab with h4 | h4
      · exact h2 _ _ (hc a2 b2 h4)
      · have e2 : (⟨(a2 : Int), (b2 : Int)⟩ : Arr2) = ⟨(a : Int), (b : Int)⟩ := by simpa using h4
        have e3 := congrArg Arr2.e0 e2
        have e4 := congrArg Arr2.e1 e2
        have e5 : a2 = a := Int.ofNat_inj.1 e3
        have e6 : b2 = b := Int.ofNat_inj.1 e4
        subst e5; subst e6; exact h1
  · obtain ⟨ok, hs, hc⟩ := hI
    rw [List.take_length] at hc
    have hpos : 0 < cs.length := lt_of_get h0
    refine S_Sets ok hN fun L u' hL => ?_
    have key : L.length < 2 ↔ Tog pins W := by
      rw [hL]
      constructor
      · intro hr q0 hq0 c hcc
        rw [hp] at hq0; injection hq0 with hq0; subst hq0
        have hmem : c ∈ cs := by
          rcases hcc with h1 | ⟨w, hw, h1⟩
          · exact hE.pin c h1
          · obtain ⟨i, hi⟩ := List.getElem?_of_mem hw
            obtain ⟨f, _, h2⟩ := hE.full w (by rw [List.take_length]; exact hw)
            obtain ⟨a, b, _, _, h3⟩ := h2 c h1
            exact List.mem_of_getElem? h3
        obtain ⟨j, hj⟩ := List.getElem?_of_mem hmem
        exact hs 0 j ⟨0, root0 ok hpos, hr j (lt_of_get hj)⟩ p0 c h0 hj
      · intro ht j hj
        have hjc := List.getElem?_eq_getElem hj
        have hcn := ht p0 hp _ (hE.mem _ (List.mem_of_getElem? hjc))
        have walk : ∀ c, Cn W p0 c → ∃ i, cs[i]? = some c ∧ Same up 0 i := by
          intro c hc'
          induction hc' with
          | refl => exact ⟨0, h0, same_refl ok hpos⟩
          | step _ w hw hb hc2 ih =>
            obtain ⟨i, hi, hsi⟩ := ih
            obtain ⟨f, _, h2⟩ := hE.full w (by rw [List.take_length]; exact hw)
            obtain ⟨a1, b1, h3, h4, h5⟩ := h2 _ hb
            obtain ⟨a2, b2, h6, h7, h8⟩ := h2 _ hc2
            have e1 := hA.inj h5 hi
            have e2 := hA.inj h4 h7
            subst e1; subst e2
            exact ⟨b2, h8, hsi.trans ((hc _ _ h3).symm.trans (hc _ _ h6))⟩
        obtain ⟨i, hi, r, h1, h2⟩ := walk _ hcn
        have e1 := hA.inj hi hjc
        subst e1
        have := h1.uniq (root0 ok hpos)
        subst this; exact h2
    have e : decide ((L.length : Int) < 2) = decide (Tog pins W) := by
      rw [decide_eq_decide, ← key]; omega
    rw [e]; exact h
theorem set_get' {α : Type} {l : List α} {m : Nat} {v : α} (hm : m < l.length) {j : Nat} : (l.set m v)[j]? = if j = m then some v else l[j]? := by
  rw [List.getElem?_set]
  by_cases e : m = j
  · subst e; rw [if_pos rfl, if_pos hm, if_pos rfl]
  · rw [if_neg e, if_neg (Ne.symm e)]
end Go.Proofs.YtihjaehkdgdenaaGreatDoor

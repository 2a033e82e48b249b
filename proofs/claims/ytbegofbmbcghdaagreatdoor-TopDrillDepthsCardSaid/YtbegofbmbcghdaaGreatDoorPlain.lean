/- Chapter texts of ours, as far as the claim needs them. -/
import Derived.Test.YtbegofbmbcghdaaGreatDoorStackA2
import Derived.Test.YtbegofbmbcghdaaGreatDoorPure
namespace Go.Proofs.YtbegofbmbcghdaaGreatDoor
open Tryz Go Go.RowKit
set_option linter.unusedVariables false
set_option linter.unusedSectionVars false
set_option linter.unusedSimpArgs false
set_option maxHeartbeats 1000000
def UA (l : Layer) (name : Str) (Q : Bool → Prop) : Prop :=
  cnd (!(name == [])) (Q (l.Name == name)) (Q false)
theorem U2 (l : Layer) (b : Str) (g : World) (f : Nat) (e : iW g (old g none_) (some ⟨f, 0, none⟩) 0 [.string (ba b)]) (Q : Bool → Prop) (h : UA l b Q) :
  Ret Tryz.prog 47 #[.agg #[.string (ba l.Name), .string (ba l.eY)], (pn f 0)] g fun v j => ∃ (i : Bool), v = .bool i ∧ Q i ∧ Sat g none_ [] j := by
 refine fC func47 rfl ntmps47 rfl (fs := [(0, _), (1, _)]) rfl (fun a c => ?_);have d := Sat.start g none_;unfold UA at h;refine X.l (S.box c d rfl rfl rfl [.string (ba l.Name), .string (ba l.eY)] rfl rfl rfl (fun m a w c d => Al c <| Sq (.bool false) rfl <| Xn <| Xl <| Sv d (.string (ba b)) rfl (V.qO (off := 0) (Ag.args _ _ _) e rfl rfl ae ac rfl rfl) <| Sv d (.bool (!(b == []))) rfl (V.qL (!(b == [])) rfl rfl rfl rfl) fun a c => ?_));refine Si c d h rfl (V.pure rfl) (fun _ h a c => ?_) fun _ h a c => ?_
 ·refine Al c <| Sv d (pn m 0) rfl (V.eF rfl rfl aL rfl ac rfl rfl) <| Sv d (.string (ba l.Name)) rfl (V.eG 0 rfl rfl rfl ae ac rfl rfl) <| Sv d (.string (ba b)) rfl (V.qO (off := 0) (Ag.args _ _ _) e rfl rfl ae ac rfl rfl) <| Sv d (.bool (l.Name == b)) rfl (V.qL (l.Name == b) rfl rfl rfl rfl) <| Sq (.bool (l.Name == b)) rfl <| Sq (.bool (l.Name == b)) rfl fun a c => X.n (wp_ret ?_);exact Lr c results47 rfl ⟨(l.Name == b), rfl, h, d.nil⟩
 ·refine Al c <| Sk rfl <| Sk rfl <| Sk rfl <| Sk rfl <| Sq (.bool false) rfl <| Sq (.bool false) rfl fun a c => X.n (wp_ret ?_);exact Lr c results47 rfl ⟨false, rfl, h, d.nil⟩
def TW (name : Str) (Q : Int → Prop) (k1 : Nat) (xk1 : Layer)  (next1 : Prop) : Prop :=
  UA xk1 name fun y1 => cnd y1 (Q (k1 : Int)) (next1)
def Ug (s_ : (List Layer)) (name : Str) (Q : Int → Prop) : Prop :=
  forIn' (fun k x (s : Unit) next => TW name Q k x (next ())) (fun (s : Unit) => Q (-1)) s_ 0 ()
theorem UH (f : (List Layer)) (g : Str) (t : World) (m : Option Addr) (u : Nat) (o : View t (old t none_) m u f) (c : Nat) (A : iW t (old t none_) (some ⟨c, 0, none⟩) 0 [.string (ba g)]) (Q : Int → Prop) (h : Ug f g Q) :
  Ret Tryz.prog 46 #[.slice m f.length u, .func (.func 47) #[] #[(pn c 0)]] t fun v P => ∃ (O : Int), v = iv O ∧ Q O ∧ Sat t none_ [] P := by
 refine fC func46 rfl ntmps46 rfl (fs := [(0, _), (1, _)]) rfl (fun a b => ?_);have e := Sat.start t none_;unfold Ug at h;refine Yl b <| Sq (iv 0) rfl <| Xn <| Ws <| Xl <| Sq (.slice m f.length u) rfl <| Sv e (iv (f.length : Int)) rfl (V.len rfl rfl ay) <| Sq (iv 0) rfl fun a b => X.n (wp_block ?_);have B := o.iL;refine C.range (fun (J : List Layer) a w => ∃ (d : Nat) , f.drop d = J ∧ d + J.length = f.length ∧ forIn' (fun k x (s : Unit) K => TW g Q k x (K ())) (fun (s : Unit) => Q (-1)) J d () ∧ fB 19 [(8, iv (d : Int)), (0, .slice m f.length u), (1, .func (.func 47) #[] #[(pn c 0)]), (7, iv (f.length : Int))] a ∧ Sat t none_ [] w) f ⟨0, rfl, Nat.zero_add _, h, (b.pk rfl), e⟩ ?_;clear h b e;rintro y a w ⟨d, E, r, h, b, e⟩
 cases y with
 | nil =>
  have N := fH r;replace h := fzx h;refine Yl b <| Sv e (.bool false) rfl (V.cmp false rfl rfl rfl rfl N) fun a b => X.n (wp_seq (C.no b rfl (wp_exit (X.eX (X.eX (X.fJ (X.eH (Yl b <| Sq (iv (-1)) rfl fun a b => X.n (wp_ret ?_)))))))));exact Lr b results46 rfl ⟨(-1), rfl, h, e.nil⟩
 | cons j y =>
  have G := fZ r; have N := TM r; have z := fO E;obtain ⟨I, F, h⟩ := uf h;replace h : TW g Q d j  I := h;unfold TW at h;refine Yl b <| Sv e (.bool true) rfl (V.cmp true rfl rfl rfl rfl N) fun a b => X.n (wp_seq (C.yes b rfl (wp_skip (X.eH (wp_seq (wp_block (Yl b <| Sq (iv (d : Int)) rfl <| Sq (iv (d : Int)) rfl <| Xn <| Xl <| Sq (.func (.func 47) #[] #[(pn c 0)]) rfl <| Sq (.slice m f.length u) rfl <| Sq (iv (d : Int)) rfl <| Sv e (fA m (d * 2)) rfl (V.index rfl rfl rfl ay aw (o.some_ (TL z)) (Int.natCast_nonneg _) (TL z) rfl) <| Sv e (.agg #[.string (ba j.Name), .string (ba j.eY)]) rfl (V.fP (off := 0) (Ag.args _ _ _) (o.flat z) rfl rfl rfl br aw rfl rfl) fun a b => S.call b rfl rfl rfl (uj (args := #[.agg #[.string (ba j.Name), .string (ba j.eY)], (pn c 0)]) rfl rfl rfl call47 (by simp)) (U2 j g _ c (Ve A e) _ h) ?_)))))));rintro v a w b ⟨T, rfl, h, i⟩;replace e := e.call i;refine X.n ?_;refine Ci b h rfl (fun _ h => ?_) fun _ h => ?_
  ·refine Yl b <| Sq (iv (d : Int)) rfl <| Sq (iv (d : Int)) rfl fun a b => X.n (wp_ret (X.eP (X.eu (X.eu (X.eP (X.eu ?_))))));exact Lr b results46 rfl ⟨(d : Int), rfl, h, e.nil⟩
  ·refine wp_skip (X.blk (X.eH (Rm b <| Sv e (iv ((d + 1 : Nat) : Int)) rfl (V.jb rfl rfl rfl G B) <| Sq (iv ((d + 1 : Nat) : Int)) rfl fun a b => X.n ?_)));exact ⟨j, y, rfl, d + 1, fE E, fF r, (by rw [F] at h; exact h), (b.pk rfl), e⟩
def Uf (s_ : (List Layer)) (name : Str) (Q : Int → Prop) : Prop :=
  Ug s_ name fun y1 => Q y1
theorem UL (g : (List Layer)) (b : Str) (j : World) (e : Option Addr) (f : Nat) (m : View j (old j none_) e f g) (Q : Int → Prop) (h : Uf g b Q) :
  Ret Tryz.prog 17 #[.slice e g.length f, .string (ba b)] j fun v t => ∃ (o : Int), v = iv o ∧ Q o ∧ Sat j none_ [] t := by
 refine fC func17 rfl ntmps17 rfl (fs := [(0, _), (1, _)]) rfl (fun a c => ?_);have d := Sat.start j none_;unfold Uf at h;refine X.l (S.box c d rfl rfl rfl [.string (ba b)] rfl rfl rfl (fun r a w c d => Al c <| Sq (iv 0) rfl <| Xn <| Xl <| Sq (.slice e g.length f) rfl <| Sq (.func (.func 47) #[] #[(pn r 0)]) rfl fun a c => Sc c (UH g b _ e f (Va m d) r (d.ED 0 rfl) _ h) rfl rfl rfl rfl call46 ?_));rintro v a w c ⟨s, rfl, h, i⟩;replace d := d.call i;refine Al c <| Sq (iv s) rfl fun a c => X.n (wp_ret ?_);exact Lr c results17 rfl ⟨s, rfl, h, d.nil⟩

-- no etchhouse/etchhouseref4.placeOf
open Go Go.RowKit
theorem Ak {α : Type} {body : Nat → α → Unit → (Unit → Prop) → Prop} {done : Unit → Prop} {A : Prop} (p : α → Bool)
    (hb : ∀ k x next, (if p x = true then A else next ()) → body k x () next) :
    ∀ (l : List α) (k : Nat), (if l.any p = true then A else done ()) → forIn' body done l k ()
  | [], _, h => by show done (); simpa using h
  | x :: r, k, h => by
    refine hb k x _ ?_
    by_cases hp : p x = true
    · rw [if_pos hp]; rw [if_pos (by simp [hp])] at h; exact h
    · rw [if_neg hp]
      refine Ak p hb r (k + 1) ?_
      have : (x :: r).any p = r.any p := by simp [hp]
      rw [this] at h; exact h
theorem UD {α : Type} {body : Nat → α → Unit → (Unit → Prop) → Prop} {done : Unit → Prop} {A : Nat → Prop} (p : α → Bool)
    (hb : ∀ k x next, (if p x = true then A k else next ()) → body k x () next) :
    ∀ (l : List α) (k : Nat), (match l.findIdx? p with | some i => A (k + i) | none => done ()) → forIn' body done l k ()
  | [], _, h => by show done (); simpa using h
  | x :: r, k, h => by
    refine hb k x _ ?_
    by_cases hp : p x = true
    · rw [if_pos hp]; simp [List.findIdx?_cons, hp] at h; exact h
    · rw [if_neg hp]
      refine UD p hb r (k + 1) ?_
      simp only [List.findIdx?_cons, hp, Bool.false_eq_true, if_false] at h
      cases hr : r.findIdx? p with
      | none => simpa [hr] using h
      | some i =>
        simp only [hr, Option.map_some] at h
        show A (k + 1 + i); rw [show k + 1 + i = k + (i + 1) by omega]; exact h
theorem Ep {σ : Type} {F : (σ → Prop) → σ → Prop} (S : Nat → σ) (n : Nat) {s : σ} (hs : s = S 0)
    (step : ∀ (X : σ → Prop) m, m < n → X (S (m + 1)) → F X (S m)) (done : ∀ X : σ → Prop, F X (S n)) : lp F s := by
  subst hs
  have key : ∀ d m, m + d = n → nC F (d + 1) (S m) := by
    intro d
    induction d with
    | zero => intro m h; obtain rfl : m = n := by omega
              exact done _
    | succ d ih => intro m h; exact step _ m (by omega) (ih (m + 1) (by omega))
  exact ⟨_, key n 0 (by omega)⟩
def iU {α : Type} (f : Nat → α → Int) : List α → Nat → Int
  | [], _ => 0
  | x :: r, k => if f k x ≠ 0 then f k x else iU f r (k + 1)
theorem Di {α : Type} {f : Nat → α → Int} : ∀ {l : List α} {k : Nat}, iU f l k = 0 → ∀ i x, l[i]? = some x → f (k + i) x = 0
  | [], _, _, i, x, hx => by simp at hx
  | y :: r, k, h, i, x, hx => by
    unfold iU at h
    split at h
    · rename_i hn; exact absurd h hn
    · rename_i hn
      cases i with
      | zero => simp at hx; subst hx; exact Decidable.not_not.1 hn
      | succ i => have := Di h i x (by simpa using hx); rw [show k + (i + 1) = k + 1 + i by omega]; exact this
theorem Dt {α σ : Type} {body : Nat → α → σ → (σ → Prop) → Prop} {done : σ → Prop} {A : Int → Prop} (f : Nat → α → Int) (g : Nat → σ) :
    ∀ (l : List α) (k : Nat), (∀ i x next, l[i]? = some x → f (k + i) x ≠ 0 → A (f (k + i) x) → body (k + i) x (g (k + i)) next) →
      (∀ i x next, l[i]? = some x → f (k + i) x = 0 → (∀ j y, j < i → l[j]? = some y → f (k + j) y = 0) → next (g (k + i + 1)) → body (k + i) x (g (k + i)) next) →
      (iU f l k ≠ 0 → A (iU f l k)) → (iU f l k = 0 → done (g (k + l.length))) → forIn' body done l k (g k)
  | [], k, _, _, _, hd => hd rfl
  | x :: r, k, h1, h2, ha, hd => by
    by_cases h0 : f k x = 0
    · refine h2 0 x _ rfl h0 (fun j y hj => by omega) ?_
      have e : iU f (x :: r) k = iU f r (k + 1) := by simp [iU, h0]
      rw [e] at ha hd
      refine Dt f g r (k + 1) (fun i y next hy => ?_) (fun i y next hy hf hj hn => ?_) ha (fun h => ?_)
      · have := h1 (i + 1) y next (by simpa using hy)
        rw [show k + 1 + i = k + (i + 1) by omega]; exact this
      · have := h2 (i + 1) y next (by simpa using hy)
        rw [show k + 1 + i = k + (i + 1) by omega] at hf hn ⊢
        refine this hf (fun j z hjl hz => ?_) hn
        cases j with
        | zero => simp at hz; subst hz; exact h0
        | succ j => have := hj j z (by omega) (by simpa using hz); rw [show k + (j + 1) = k + 1 + j by omega]; exact this
      · have := hd h; simp only [List.length_cons] at this; rw [show k + 1 + r.length = k + (r.length + 1) by omega]; exact this
    · refine h1 0 x _ rfl h0 ?_
      have e : iU f (x :: r) k = f k x := by simp [iU, h0]
      rw [e] at ha; exact ha h0
theorem AA {α σ : Type} {body : Nat → α → σ → (σ → Prop) → Prop} {done : σ → Prop} {A : Int → Prop} (f : Nat → α → Int) (g : Nat → σ) {l : List α} {s : σ} (hs : s = g 0)
    (h1 : ∀ i x next, l[i]? = some x → f i x ≠ 0 → A (f i x) → body i x (g i) next)
    (h2 : ∀ i x next, l[i]? = some x → f i x = 0 → (∀ j y, j < i → l[j]? = some y → f j y = 0) → next (g (i + 1)) → body i x (g i) next)
    (ha : iU f l 0 ≠ 0 → A (iU f l 0)) (hd : iU f l 0 = 0 → done (g l.length)) : forIn' body done l 0 s := by
  subst hs
  refine Dt f g l 0 (fun i x next => ?_) (fun i x next => ?_) ha (fun h => ?_)
  · rw [Nat.zero_add]; exact h1 i x next
  · rw [Nat.zero_add]; intro hx hf hj hn; exact h2 i x next hx hf (fun j y hjl hy => by have := hj j y hjl hy; rwa [Nat.zero_add] at this) hn
  · rw [Nat.zero_add]; exact hd h
theorem Ro {α : Type} {F : (Int → Prop) → Int → Prop} {xs : List α} (hlen : xs.length ≤ 9223372036854775807) (bad : α → Bool) {A done : Prop}
    (hF : ∀ X n, cnd (decide (n < (xs.length : Int))) (idx xs n fun x => cnd (bad x) A (X (w64 (n + 1)))) done → F X n) (h : if xs.any bad = true then A else done) : lp F 0 := by
  have key : ∀ d (k : Nat), k + d = xs.length → (∀ i x, i < k → xs[i]? = some x → bad x = false) → nC F (d + 1) (k : Int) := by
    intro d
    induction d with
    | zero =>
      intro k hk hb
      refine hF _ _ (eU (fun e => ?_) (fun _ => ?_))
      · simp at e; omega
      · have : xs.any bad = false := by
          rw [List.any_eq_false]; intro x hx
          obtain ⟨i, hi⟩ := List.getElem?_of_mem hx
          have := hb i x (by have := TL hi; omega) hi
          simp [this]
        rw [this] at h; simpa using h
    | succ d ih =>
      intro k hk hb
      refine hF _ _ (eU (fun e => ?_) (fun e => ?_))
      · have hlt : k < xs.length := by omega
        refine gW (List.getElem?_eq_getElem hlt) (eU (fun eb => ?_) (fun eb => ?_))
        · have : xs.any bad = true := List.any_eq_true.2 ⟨_, List.getElem_mem hlt, eb⟩
          rw [this] at h; simpa using h
        · have hw : w64 ((k : Int) + 1) = ((k + 1 : Nat) : Int) := by rw [gV] <;> omega
          rw [hw]
          refine ih (k + 1) (by omega) (fun i x hi hx => ?_)
          rcases Nat.lt_or_ge i k with h1 | h1
          · exact hb i x h1 hx
          · obtain rfl : i = k := by omega
            rw [List.getElem?_eq_getElem hlt] at hx; injection hx with hx; subst hx; exact eb
      · simp at e; omega
  exact ⟨_, key xs.length 0 (by omega) (fun i x hi => by omega)⟩
theorem NQ {α : Type} [DecidableEq α] {xs ys : List α} {Q : Bool → Prop} {body : Nat → α → Unit → (Unit → Prop) → Prop} (hb : ∀ (k : Nat) (x : α) (next : Unit → Prop), idx ys (k : Int) (fun y => cnd (!(decide (x = y))) (Q false) (next ())) → body k x () next)
    (h : Q (decide (xs = ys))) : cnd ((xs.length : Int) != (ys.length : Int)) (Q false) (forIn' body (fun _ => Q true) xs 0 ()) := by
  refine eU (fun e => ?_) (fun e => ?_)
  · simp at e
    have hne : xs ≠ ys := fun he => e (by rw [he])
    simpa [hne] using h
  · simp at e
    refine iQ (fun k _ => ∀ i, i < k → xs[i]? = ys[i]?) (fun i h => by omega) (fun k x s hx hI next hn => ?_) (fun s hI => ?_)
    · have hk := TL hx
      refine hb _ _ _ (gW (List.getElem?_eq_getElem (by omega)) (eU (fun e2 => ?_) (fun e2 => hn _ (fun i hi => ?_))))
      · have hne : xs ≠ ys := fun he => by subst he; rw [List.getElem?_eq_getElem hk] at hx; injection hx with hx; simp [hx] at e2
        simpa [hne] using h
      · rcases Nat.lt_or_ge i k with hlt | hge
        · exact hI i hlt
        · have : i = k := by omega
          subst this
          simp at e2
          rw [hx, e2, List.getElem?_eq_getElem]
    · have he : xs = ys := by
        apply List.ext_getElem?
        intro i
        rcases Nat.lt_or_ge i xs.length with hlt | hge
        · exact hI i hlt
        · rw [List.getElem?_eq_none hge, List.getElem?_eq_none (by omega)]
      simpa [he] using h
end Go.Proofs.YtbegofbmbcghdaaGreatDoor

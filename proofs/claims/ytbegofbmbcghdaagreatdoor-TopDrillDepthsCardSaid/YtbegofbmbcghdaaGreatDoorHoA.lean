/- Chapter texts of ours, as far as the claim needs them. -/
import Derived.Shelf.Strings.Split
import Derived.Test.YtbegofbmbcghdaaGreatDoorShelf
import Derived.Test.YtbegofbmbcghdaaGreatDoorStackA
namespace Go.Proofs.YtbegofbmbcghdaaGreatDoor
open Tryz Go Go.RowKit
set_option linter.unusedVariables false
set_option linter.unusedSectionVars false
set_option linter.unusedSimpArgs false
set_option maxHeartbeats 1000000
def xh (n : Int) (lo : Int) (hi : Int) (Q : Bool → Prop) : Prop :=
  cnd (decide (n ≥ lo)) (Q (decide (n ≤ hi))) (Q false)
theorem I7 (n : Int) (d : Int) (c : Int) (e : World)  (Q : Bool → Prop) (h : xh n d c Q) :
  Ret Tryz.prog 62 #[iv n, iv d, iv c] e fun v i => ∃ (g : Bool), v = .bool g ∧ Q g ∧ Sat e none_ [] i := by
 refine fC func62 rfl ntmps62 rfl (fs := [(0, _), (1, _), (2, _)]) rfl (fun a b => ?_);have f := Sat.start e none_;unfold xh at h;refine Yl b <| Sq (.bool false) rfl <| Xn <| Xl <| Sq (iv n) rfl <| Sq (iv d) rfl <| Sq (.bool (decide (n ≥ d))) rfl fun a b => ?_;refine Si b f h rfl (V.pure rfl) (fun _ h a b => ?_) fun _ h a b => ?_
 ·refine Al b <| Sq (iv n) rfl <| Sq (iv c) rfl <| Sq (.bool (decide (n ≤ c))) rfl <| Sq (.bool (decide (n ≤ c))) rfl <| Sq (.bool (decide (n ≤ c))) rfl fun a b => X.n (wp_ret ?_);exact Lr b results62 rfl ⟨(decide (n ≤ c)), rfl, h, f.nil⟩
 ·refine Al b <| Sk rfl <| Sk rfl <| Sk rfl <| Sq (.bool false) rfl <| Sq (.bool false) rfl fun a b => X.n (wp_ret ?_);exact Lr b results62 rfl ⟨false, rfl, h, f.nil⟩
theorem IZ (n lo hi : Int) : xh n lo hi (· = within n lo hi) := by
  unfold xh within; constructor <;> intro h <;> simp_all <;> omega
theorem xg (n : Int) (lo : Int) (hi : Int) (w0 : World)  : Ret Tryz.prog 62 #[.int .i64 n, .int .i64 lo, .int .i64 hi] w0 fun v w' => v = .bool (within n lo hi) ∧ Sat w0 none_ [] w' :=
  (I7 n lo hi w0  (· = (within n lo hi)) (IZ n lo hi)).mono fun v w' ⟨r0, hv, hr, hs⟩ => ⟨by subst hr; exact hv, hs⟩
def wY (n : Int) (lo : Int) (hi : Int) (Q : Bool → Prop) : Prop :=
  cnd (decide (n ≥ lo)) (Q (decide (n ≤ hi))) (Q false)
theorem H9 (n : Int) (d : Int) (c : Int) (e : World)  (Q : Bool → Prop) (h : wY n d c Q) :
  Ret Tryz.prog 145 #[iv n, iv d, iv c] e fun v i => ∃ (g : Bool), v = .bool g ∧ Q g ∧ Sat e none_ [] i := by
 refine fC func145 rfl ntmps145 rfl (fs := [(0, _), (1, _), (2, _)]) rfl (fun a b => ?_);have f := Sat.start e none_;unfold wY at h;refine Yl b <| Sq (.bool false) rfl <| Xn <| Xl <| Sq (iv n) rfl <| Sq (iv d) rfl <| Sq (.bool (decide (n ≥ d))) rfl fun a b => ?_;refine Si b f h rfl (V.pure rfl) (fun _ h a b => ?_) fun _ h a b => ?_
 ·refine Al b <| Sq (iv n) rfl <| Sq (iv c) rfl <| Sq (.bool (decide (n ≤ c))) rfl <| Sq (.bool (decide (n ≤ c))) rfl <| Sq (.bool (decide (n ≤ c))) rfl fun a b => X.n (wp_ret ?_);exact Lr b results145 rfl ⟨(decide (n ≤ c)), rfl, h, f.nil⟩
 ·refine Al b <| Sk rfl <| Sk rfl <| Sk rfl <| Sq (.bool false) rfl <| Sq (.bool false) rfl fun a b => X.n (wp_ret ?_);exact Lr b results145 rfl ⟨false, rfl, h, f.nil⟩
theorem Iw (n lo hi : Int) : wY n lo hi (· = within n lo hi) := by
  unfold wY within; constructor <;> intro h <;> simp_all <;> omega
theorem Jc (n : Int) (lo : Int) (hi : Int) (w0 : World)  : Ret Tryz.prog 145 #[.int .i64 n, .int .i64 lo, .int .i64 hi] w0 fun v w' => v = .bool (within n lo hi) ∧ Sat w0 none_ [] w' :=
  (H9 n lo hi w0  (· = (within n lo hi)) (Iw n lo hi)).mono fun v w' ⟨r0, hv, hr, hs⟩ => ⟨by subst hr; exact hv, hs⟩
def xW (n : Int) (lo : Int) (hi : Int) (Q : Bool → Prop) : Prop :=
  cnd (decide (n ≥ lo)) (Q (decide (n ≤ hi))) (Q false)
theorem Jf (n : Int) (d : Int) (c : Int) (e : World)  (Q : Bool → Prop) (h : xW n d c Q) :
  Ret Tryz.prog 54 #[iv n, iv d, iv c] e fun v i => ∃ (g : Bool), v = .bool g ∧ Q g ∧ Sat e none_ [] i := by
 refine fC func54 rfl ntmps54 rfl (fs := [(0, _), (1, _), (2, _)]) rfl (fun a b => ?_);have f := Sat.start e none_;unfold xW at h;refine Yl b <| Sq (.bool false) rfl <| Xn <| Xl <| Sq (iv n) rfl <| Sq (iv d) rfl <| Sq (.bool (decide (n ≥ d))) rfl fun a b => ?_;refine Si b f h rfl (V.pure rfl) (fun _ h a b => ?_) fun _ h a b => ?_
 ·refine Al b <| Sq (iv n) rfl <| Sq (iv c) rfl <| Sq (.bool (decide (n ≤ c))) rfl <| Sq (.bool (decide (n ≤ c))) rfl <| Sq (.bool (decide (n ≤ c))) rfl fun a b => X.n (wp_ret ?_);exact Lr b results54 rfl ⟨(decide (n ≤ c)), rfl, h, f.nil⟩
 ·refine Al b <| Sk rfl <| Sk rfl <| Sk rfl <| Sq (.bool false) rfl <| Sq (.bool false) rfl fun a b => X.n (wp_ret ?_);exact Lr b results54 rfl ⟨false, rfl, h, f.nil⟩
theorem JC (n lo hi : Int) : xW n lo hi (· = within n lo hi) := by
  unfold xW within; constructor <;> intro h <;> simp_all <;> omega
theorem tq (n : Int) (lo : Int) (hi : Int) (w0 : World)  : Ret Tryz.prog 54 #[.int .i64 n, .int .i64 lo, .int .i64 hi] w0 fun v w' => v = .bool (within n lo hi) ∧ Sat w0 none_ [] w' :=
  (Jf n lo hi w0  (· = (within n lo hi)) (JC n lo hi)).mono fun v w' ⟨r0, hv, hr, hs⟩ => ⟨by subst hr; exact hv, hs⟩
def wU (n : Int) (lo : Int) (hi : Int) (Q : Bool → Prop) : Prop :=
  cnd (decide (n ≥ lo)) (Q (decide (n ≤ hi))) (Q false)
theorem Hg (n : Int) (d : Int) (c : Int) (e : World)  (Q : Bool → Prop) (h : wU n d c Q) :
  Ret Tryz.prog 69 #[iv n, iv d, iv c] e fun v i => ∃ (g : Bool), v = .bool g ∧ Q g ∧ Sat e none_ [] i := by
 refine fC func69 rfl ntmps69 rfl (fs := [(0, _), (1, _), (2, _)]) rfl (fun a b => ?_);have f := Sat.start e none_;unfold wU at h;refine Yl b <| Sq (.bool false) rfl <| Xn <| Xl <| Sq (iv n) rfl <| Sq (iv d) rfl <| Sq (.bool (decide (n ≥ d))) rfl fun a b => ?_;refine Si b f h rfl (V.pure rfl) (fun _ h a b => ?_) fun _ h a b => ?_
 ·refine Al b <| Sq (iv n) rfl <| Sq (iv c) rfl <| Sq (.bool (decide (n ≤ c))) rfl <| Sq (.bool (decide (n ≤ c))) rfl <| Sq (.bool (decide (n ≤ c))) rfl fun a b => X.n (wp_ret ?_);exact Lr b results69 rfl ⟨(decide (n ≤ c)), rfl, h, f.nil⟩
 ·refine Al b <| Sk rfl <| Sk rfl <| Sk rfl <| Sq (.bool false) rfl <| Sq (.bool false) rfl fun a b => X.n (wp_ret ?_);exact Lr b results69 rfl ⟨false, rfl, h, f.nil⟩
theorem IW (n lo hi : Int) : wU n lo hi (· = within n lo hi) := by
  unfold wU within; constructor <;> intro h <;> simp_all <;> omega
theorem BK (n : Int) (lo : Int) (hi : Int) (w0 : World)  : Ret Tryz.prog 69 #[.int .i64 n, .int .i64 lo, .int .i64 hi] w0 fun v w' => v = .bool (within n lo hi) ∧ Sat w0 none_ [] w' :=
  (Hg n lo hi w0  (· = (within n lo hi)) (IW n lo hi)).mono fun v w' ⟨r0, hv, hr, hs⟩ => ⟨by subst hr; exact hv, hs⟩
def xk (n : Int) (lo : Int) (hi : Int) (Q : Bool → Prop) : Prop :=
  cnd (decide (n ≥ lo)) (Q (decide (n ≤ hi))) (Q false)
theorem Ip (n : Int) (d : Int) (c : Int) (e : World)  (Q : Bool → Prop) (h : xk n d c Q) :
  Ret Tryz.prog 34 #[iv n, iv d, iv c] e fun v i => ∃ (g : Bool), v = .bool g ∧ Q g ∧ Sat e none_ [] i := by
 refine fC func34 rfl ntmps34 rfl (fs := [(0, _), (1, _), (2, _)]) rfl (fun a b => ?_);have f := Sat.start e none_;unfold xk at h;refine Yl b <| Sq (.bool false) rfl <| Xn <| Xl <| Sq (iv n) rfl <| Sq (iv d) rfl <| Sq (.bool (decide (n ≥ d))) rfl fun a b => ?_;refine Si b f h rfl (V.pure rfl) (fun _ h a b => ?_) fun _ h a b => ?_
 ·refine Al b <| Sq (iv n) rfl <| Sq (iv c) rfl <| Sq (.bool (decide (n ≤ c))) rfl <| Sq (.bool (decide (n ≤ c))) rfl <| Sq (.bool (decide (n ≤ c))) rfl fun a b => X.n (wp_ret ?_);exact Lr b results34 rfl ⟨(decide (n ≤ c)), rfl, h, f.nil⟩
 ·refine Al b <| Sk rfl <| Sk rfl <| Sk rfl <| Sq (.bool false) rfl <| Sq (.bool false) rfl fun a b => X.n (wp_ret ?_);exact Lr b results34 rfl ⟨false, rfl, h, f.nil⟩
theorem I5 (n lo hi : Int) : xk n lo hi (· = within n lo hi) := by
  unfold xk within; constructor <;> intro h <;> simp_all <;> omega
theorem rM (n : Int) (lo : Int) (hi : Int) (w0 : World)  : Ret Tryz.prog 34 #[.int .i64 n, .int .i64 lo, .int .i64 hi] w0 fun v w' => v = .bool (within n lo hi) ∧ Sat w0 none_ [] w' :=
  (Ip n lo hi w0  (· = (within n lo hi)) (I5 n lo hi)).mono fun v w' ⟨r0, hv, hr, hs⟩ => ⟨by subst hr; exact hv, hs⟩
def wM (n : Int) (lo : Int) (hi : Int) (Q : Bool → Prop) : Prop :=
  cnd (decide (n ≥ lo)) (Q (decide (n ≤ hi))) (Q false)
theorem G7 (n : Int) (d : Int) (c : Int) (e : World)  (Q : Bool → Prop) (h : wM n d c Q) :
  Ret Tryz.prog 26 #[iv n, iv d, iv c] e fun v i => ∃ (g : Bool), v = .bool g ∧ Q g ∧ Sat e none_ [] i := by
 refine fC func26 rfl ntmps26 rfl (fs := [(0, _), (1, _), (2, _)]) rfl (fun a b => ?_);have f := Sat.start e none_;unfold wM at h;refine Yl b <| Sq (.bool false) rfl <| Xn <| Xl <| Sq (iv n) rfl <| Sq (iv d) rfl <| Sq (.bool (decide (n ≥ d))) rfl fun a b => ?_;refine Si b f h rfl (V.pure rfl) (fun _ h a b => ?_) fun _ h a b => ?_
 ·refine Al b <| Sq (iv n) rfl <| Sq (iv c) rfl <| Sq (.bool (decide (n ≤ c))) rfl <| Sq (.bool (decide (n ≤ c))) rfl <| Sq (.bool (decide (n ≤ c))) rfl fun a b => X.n (wp_ret ?_);exact Lr b results26 rfl ⟨(decide (n ≤ c)), rfl, h, f.nil⟩
 ·refine Al b <| Sk rfl <| Sk rfl <| Sk rfl <| Sq (.bool false) rfl <| Sq (.bool false) rfl fun a b => X.n (wp_ret ?_);exact Lr b results26 rfl ⟨false, rfl, h, f.nil⟩
theorem IQ (n lo hi : Int) : wM n lo hi (· = within n lo hi) := by
  unfold wM within; constructor <;> intro h <;> simp_all <;> omega
theorem wz (n : Int) (lo : Int) (hi : Int) (w0 : World)  : Ret Tryz.prog 26 #[.int .i64 n, .int .i64 lo, .int .i64 hi] w0 fun v w' => v = .bool (within n lo hi) ∧ Sat w0 none_ [] w' :=
  (G7 n lo hi w0  (· = (within n lo hi)) (IQ n lo hi)).mono fun v w' ⟨r0, hv, hr, hs⟩ => ⟨by subst hr; exact hv, hs⟩
def zy (s sep : Str) (sv n : Int) (Q : List Str → Prop) : Prop := must (s.length < 4294967281 ∧ (∃ c, sep = [c]) ∧ sv = 0 ∧ n = -1) (Q (Lib.split s sep))
theorem D7 (s j : Str) (u n : Int) (a : World) (Q : List Str → Prop) (h : zy s j u n Q) :
  Ret Tryz.prog 131 #[.string (ba s), .string (ba j), .int .i64 u, .int .i64 n] a fun v w => ∃ (r : List Str) (m : Option Addr) (o : Nat), v = .slice m r.length o ∧ Q r ∧ Sat a none_ [hown 9 m o r] w := by
 obtain ⟨⟨y, ⟨c, rfl⟩, rfl, rfl⟩, E⟩ := h;have z : (ba s).size < 4294967281 := by rw [vN]; exact y
 have f : (ba [c]).size = 1 := by rw [vN]; rfl
 have A := Lib.countB_le (ba [c]) (Nat.le_of_eq f.symm) (ba s).size (ba s) (Nat.le_refl _);have d := Lib.splitB_all (ba [c]) (Nat.le_of_eq f.symm) 0 _ (ba s) rfl;have g := Any.strings_genSplit_core (P := Tryz.prog) Tryz.Kv (by kernel_rfl) (ba s) (ba [c]) 0 (-1) (Lib.countB (ba s) (ba [c]) + 1) a z (Nat.le_of_eq f.symm) (Nat.zero_le _)
  (fun x F _ => by
   have i := Any.strings_Index_one (P := Tryz.prog) { Tryz.Kv with } x c (a.alloc (.cells F (Tryz.F5.t 9)))
   rw [← Lib.index_one] at i
   exact i)
  (by
   have i := Any.strings_Count_one (P := Tryz.prog) { Tryz.Kv with } (ba s) c a;have e : Lib.countB (ba s) (ba [c]) = Lib.countByte (ba s).data.toList c := Lib.count_one c _
   rw [e]
   exact i)
  (by decide) (by decide) (by rw [if_pos (by decide)]; omega)
 rw [Nat.add_sub_cancel, d] at g
 have B : (Lib.splitB (ba [c]) 0 (Lib.countB (ba s) (ba [c])) (ba s)).map (·.data.toList) = Lib.split s [c] := by
  rw [Lib.splitB_data, xC, xC]
  show _ = Lib.splitK [c] 0 (Lib.count s [c]) s
  have : Lib.countB (ba s) (ba [c]) = Lib.count s [c] := by
   show Lib.count (ba s).data.toList (ba [c]).data.toList = _
   rw [xC, xC]
  rw [this]
 have G : Lib.countB (ba s) (ba [c]) + 1 = (Lib.split s [c]).length := by rw [← B, List.length_map, d]
 have I : Lib.cellsOf (Lib.splitB (ba [c]) 0 (Lib.countB (ba s) (ba [c])) (ba s)) (Lib.countB (ba s) (ba [c]) + 1) = ((Lib.split s [c]).flatMap Flat.enc).toArray := by
  have J : Lib.cellsOf (Lib.splitB (ba [c]) 0 (Lib.countB (ba s) (ba [c])) (ba s)) (Lib.countB (ba s) (ba [c]) + 1) = ((Lib.splitB (ba [c]) 0 (Lib.countB (ba s) (ba [c])) (ba s)).map Value.string).toArray := by rw [← d]; exact Lib.cellsOf_full _
  rw [J, ← B, List.flatMap_map]
  congr 1
  generalize Lib.splitB (ba [c]) 0 (Lib.countB (ba s) (ba [c])) (ba s) = l
  induction l with
  | nil => rfl
  | cons x l ih => rw [List.map_cons, ih]; rfl
 rw [I, G] at g
 refine Calls.mono g fun e w ⟨K, N⟩ => ⟨_, K, Lib.split s [c], some ⟨a.heap.size, 0, none⟩, (Lib.split s [c]).length, rfl, E, ?_⟩
 rw [N]
 refine (Sat.start a none_).add (Keeps.alloc a (.cells ((Lib.split s [c]).flatMap Flat.enc).toArray 9) _) (F' := fun b => b = a.heap.size) ⟨⟨?_, ?_⟩, fun b => by simp [Value.ownBlock]; exact eq_comm⟩ (fun b O => by subst O; simp)
 ·rw [fV]
 ·refine .inr ⟨a.heap.size, (Lib.split s [c]).length, ((Lib.split s [c]).flatMap Flat.enc).toArray, rfl, Nat.zero_le _, lU a _, Nat.le_refl _, by rw [vN] at A; unfold maxLen; omega, by rw [List.size_toArray, fV], ?_⟩
  show List.take _ ((Lib.split s [c]).flatMap Flat.enc) = _
  exact List.take_of_length_le (by rw [fV]; exact Nat.le_refl _)
theorem J8 (sep : Str) : ∀ (k : Nat) (s x : Str), x ∈ Lib.splitK sep 0 k s → x.length ≤ s.length
  | 0, s, x, h => by simp [Lib.splitK] at h; rw [h]; exact Nat.le_refl _
  | k + 1, s, x, h => by
    unfold Lib.splitK at h
    split at h
    · simp at h; rw [h]; exact Nat.le_refl _
    · rcases List.mem_cons.1 h with h | h
      · rw [h, List.length_take]; omega
      · have := J8 sep k _ x h
        rw [List.length_drop] at this; omega
def vO (s_ : Str) (sep : Str) (Q : (List Str) → Prop) : Prop :=
  zy s_ sep 0 (-1) fun y1 => Q y1
theorem Gp (e : Str) (c : Str) (o : World)  (Q : (List Str) → Prop) (h : vO e c Q) :
  Ret Tryz.prog 86 #[.string (ba e), .string (ba c)] o fun v t => ∃ (r : (List Str)) (f : Option Addr) (g : Nat), v = .slice f r.length g ∧ Q r ∧ Sat o none_ [hown 9 f g r] t := by
 refine fC func86 rfl ntmps86 rfl (fs := [(0, _), (1, _)]) rfl (fun a b => ?_);have d := Sat.start o none_;unfold vO at h;refine Yl b <| Sq (.slice none 0 0) rfl <| Xn <| Xl <| Sq (.string (ba e)) rfl <| Sq (.string (ba c)) rfl fun a b => Sc b (D7 e c 0 (-1) _ _ h) rfl rfl rfl rfl call131 ?_;rintro v a w b ⟨s, j, m, rfl, h, i⟩;replace d := d.call i;refine Al b <| Sq (.slice j s.length m) rfl fun a b => X.n (wp_ret ?_);replace d := d.take 1;exact Lr b results86 rfl ⟨s, j, m, rfl, h, d⟩
def Cf (w_ : Str) (Q : Bool → Prop) : Prop :=
  iF w_ fun y1 => Q (!y1)
theorem OO (c : Str) (d : World)  (Q : Bool → Prop) (h : Cf c Q) :
  Ret Tryz.prog 87 #[.string (ba c)] d fun v j => ∃ (g : Bool), v = .bool g ∧ Q g ∧ Sat d none_ [] j := by
 refine fC func87 rfl ntmps87 rfl (fs := [(0, _)]) rfl (fun a b => ?_);have e := Sat.start d none_;unfold Cf at h;refine Yl b <| Sq (.bool false) rfl <| Xn <| Xl <| Sq (.string (ba c)) rfl fun a b => Sc b (jJ c _ _ h) rfl rfl rfl rfl call43 ?_;rintro v a w b ⟨f, rfl, h, i⟩;replace e := e.call i;refine Al b <| Sq (.bool (!f)) rfl <| Sq (.bool (!f)) rfl fun a b => X.n (wp_ret ?_);exact Lr b results87 rfl ⟨(!f), rfl, h, e.nil⟩
def kF (Q : Int → Prop) (k1 : Nat) (xk1 : Str)  (next1 : Prop) : Prop :=
  Cf xk1 fun y1 => cnd y1 (Q (k1 : Int)) (next1)
def yx (s_ : (List Str)) (Q : Int → Prop) : Prop :=
  forIn' (fun k x (s : Unit) next => kF Q k x (next ())) (fun (s : Unit) => Q (-1)) s_ 0 ()
theorem Gs (e : (List Str)) (u : World) (f : Option Addr) (m : Nat) (g : View u (old u none_) f m e) (Q : Int → Prop) (h : yx e Q) :
  Ret Tryz.prog 130 #[.slice f e.length m, .func (.func 87) #[] #[]] u fun v K => ∃ (J : Int), v = iv J ∧ Q J ∧ Sat u none_ [] K := by
 refine fC func130 rfl ntmps130 rfl (fs := [(0, _), (1, _)]) rfl (fun a b => ?_);have d := Sat.start u none_;unfold yx at h;refine Yl b <| Sq (iv 0) rfl <| Xn <| Ws <| Xl <| Sq (.slice f e.length m) rfl <| Sv d (iv (e.length : Int)) rfl (V.len rfl rfl aW) <| Sq (iv 0) rfl fun a b => X.n (wp_block ?_);have y := g.iL;refine C.range (fun (F : List Str) a w => ∃ (c : Nat) , e.drop c = F ∧ c + F.length = e.length ∧ forIn' (fun k x (s : Unit) G => kF Q k x (G ())) (fun (s : Unit) => Q (-1)) F c () ∧ fB 19 [(8, iv (c : Int)), (0, .slice f e.length m), (1, .func (.func 87) #[] #[]), (7, iv (e.length : Int))] a ∧ Sat u none_ [] w) e ⟨0, rfl, Nat.zero_add _, h, (b.pk rfl), d⟩ ?_;clear h b d;rintro o a w ⟨c, z, j, h, b, d⟩
 cases o with
 | nil =>
  have I := fH j;replace h := fzx h;refine Yl b <| Sv d (.bool false) rfl (V.cmp false rfl rfl rfl rfl I) fun a b => X.n (wp_seq (C.no b rfl (wp_exit (X.eX (X.eX (X.fJ (X.eH (Yl b <| Sq (iv (-1)) rfl fun a b => X.n (wp_ret ?_)))))))));exact Lr b results130 rfl ⟨(-1), rfl, h, d.nil⟩
 | cons t o =>
  have B := fZ j; have I := TM j; have r := fO z;obtain ⟨E, A, h⟩ := uf h;replace h : kF Q c t  E := h;unfold kF at h;refine Yl b <| Sv d (.bool true) rfl (V.cmp true rfl rfl rfl rfl I) fun a b => X.n (wp_seq (C.yes b rfl (wp_skip (X.eH (wp_seq (wp_block (Yl b <| Sq (iv (c : Int)) rfl <| Sq (iv (c : Int)) rfl <| Xn <| Xl <| Sq (.func (.func 87) #[] #[]) rfl <| Sq (.slice f e.length m) rfl <| Sq (iv (c : Int)) rfl <| Sv d (fA f (c * 1)) rfl (V.index rfl rfl rfl aW ac (g.some_ (TL r)) (Int.natCast_nonneg _) (TL r) rfl) <| Sv d (.string (ba t)) rfl (V.fP (off := 0) (Ag.args _ _ _) (g.flat r) rfl rfl rfl ae ac rfl rfl) fun a b => Sc b (OO t _ _ h) rfl rfl rfl rfl call87 ?_)))))));rintro v a w b ⟨N, rfl, h, i⟩;replace d := d.call i;refine X.n ?_;refine Ci b h rfl (fun _ h => ?_) fun _ h => ?_
  ·refine Yl b <| Sq (iv (c : Int)) rfl <| Sq (iv (c : Int)) rfl fun a b => X.n (wp_ret (X.eP (X.eu (X.eu (X.eP (X.eu ?_))))));exact Lr b results130 rfl ⟨(c : Int), rfl, h, d.nil⟩
  ·refine wp_skip (X.blk (X.eH (Rm b <| Sv d (iv ((c + 1 : Nat) : Int)) rfl (V.jb rfl rfl rfl B y) <| Sq (iv ((c + 1 : Nat) : Int)) rfl fun a b => X.n ?_)));exact ⟨t, o, rfl, c + 1, fE z, fF j, (by rw [A] at h; exact h), (b.pk rfl), d⟩
def vU (s_ : (List Str)) (Q : Bool → Prop) : Prop :=
  yx s_ fun y1 => Q (decide (y1 ≥ 0))
theorem DT (e : (List Str)) (f : World) (c : Option Addr) (d : Nat) (g : View f (old f none_) c d e) (Q : Bool → Prop) (h : vU e Q) :
  Ret Tryz.prog 85 #[.slice c e.length d, .func (.func 87) #[] #[]] f fun v r => ∃ (o : Bool), v = .bool o ∧ Q o ∧ Sat f none_ [] r := by
 refine fC func85 rfl ntmps85 rfl (fs := [(0, _), (1, _)]) rfl (fun a b => ?_);have j := Sat.start f none_;unfold vU at h;refine Yl b <| Sq (.bool false) rfl <| Xn <| Xl <| Sq (.slice c e.length d) rfl <| Sq (.func (.func 87) #[] #[]) rfl fun a b => Sc b (Gs e _ c d (Va g j) _ h) rfl rfl rfl rfl call130 ?_;rintro v a w b ⟨m, rfl, h, i⟩;replace j := j.call i;refine Al b <| Sq (.bool (decide (m ≥ 0))) rfl <| Sq (.bool (decide (m ≥ 0))) rfl fun a b => X.n (wp_ret ?_);exact Lr b results85 rfl ⟨(decide (m ≥ 0)), rfl, h, j.nil⟩
def kG (s_ : Str) (Q : Bool → Prop) : Prop :=
  cnd (decide ((s_.length : Int) ≤ 200)) (vO s_ [47] fun y1 => vU y1 fun y2 => Q (!y2)) (Q false)
theorem uS (d : Str) (f : World)  (Q : Bool → Prop) (h : kG d Q) :
  Ret Tryz.prog 50 #[.string (ba d)] f fun v o => ∃ (g : Bool), v = .bool g ∧ Q g ∧ Sat f none_ [] o := by
 refine fC func50 rfl ntmps50 rfl (fs := [(0, _)]) rfl (fun a b => ?_);have c := Sat.start f none_;unfold kG at h;refine Yl b <| Sq (.bool false) rfl <| Xn <| Xl <| Sq (.string (ba d)) rfl <| Sv c (iv (d.length : Int)) rfl (V.BU rfl rfl bx) <| Sq (.bool (decide ((d.length : Int) ≤ 200))) rfl fun a b => ?_;refine Si b c h rfl (V.pure rfl) (fun _ h a b => ?_) fun _ h a b => ?_
 ·refine Al b <| Sq (.string (ba d)) rfl fun a b => Sc b (Gp d [47] _ _ h) rfl rfl rfl rfl call86 ?_;rintro v a w b ⟨r, j, m, rfl, h, i⟩;replace c := c.call i;refine Sc b (DT r _ j m (c.fQ 0 rfl) _ h) rfl rfl rfl rfl call85 ?_;rintro v a w b ⟨e, rfl, h, i⟩;replace c := c.call i;refine Al b <| Sq (.bool (!e)) rfl <| Sq (.bool (!e)) rfl <| Sq (.bool (!e)) rfl fun a b => X.n (wp_ret ?_);exact Lr b results50 rfl ⟨(!e), rfl, h, c.nil⟩
 ·refine Al b <| Sk rfl <| Sk rfl <| Sk rfl <| Sk rfl <| Sq (.bool false) rfl <| Sq (.bool false) rfl fun a b => X.n (wp_ret ?_);exact Lr b results50 rfl ⟨false, rfl, h, c.nil⟩
def mX (n : Int) (Q : Bool → Prop) : Prop :=
  Q (within n (-1000000) 1000000)
theorem uI (n : Int) (d : World)  (Q : Bool → Prop) (h : mX n Q) :
  Ret Tryz.prog 97 #[iv n] d fun v g => ∃ (f : Bool), v = .bool f ∧ Q f ∧ Sat d none_ [] g := by
 refine fC func97 rfl ntmps97 rfl (fs := [(0, _)]) rfl (fun a b => ?_);have e := Sat.start d none_;unfold mX at h;refine Yl b <| Sq (.bool false) rfl <| Xn <| Xl <| Sq (iv n) rfl fun a b => Su b (Jc n (-1000000) 1000000 _) rfl rfl rfl rfl call145 (fun a w b c => ?_);replace e := e.call c; clear c;refine Al b <| Sq (.bool (within n (-1000000) 1000000)) rfl fun a b => X.n (wp_ret ?_);exact Lr b results97 rfl ⟨(within n (-1000000) 1000000), rfl, h, e.nil⟩
def qj (p : Point) (Q : Bool → Prop) : Prop :=
  mX p.X fun y1 => cnd y1 (mX p.Y fun y2 => Q y2) (Q false)
theorem Bj (p : Point) (d : World)  (Q : Bool → Prop) (h : qj p Q) :
  Ret Tryz.prog 61 #[.agg #[iv p.X, iv p.Y]] d fun v j => ∃ (f : Bool), v = .bool f ∧ Q f ∧ Sat d none_ [] j := by
 refine fC func61 rfl ntmps61 rfl (fs := [(0, _)]) rfl (fun a b => ?_);have c := Sat.start d none_;unfold qj at h;refine X.l (S.box b c rfl rfl rfl [iv p.X, iv p.Y] rfl rfl rfl (fun g a w b c => Al b <| Sq (.bool false) rfl <| Xn <| Xl <| Sv c (pn g 0) rfl (V.eF rfl rfl aF rfl aa rfl rfl) <| Sv c (iv p.X) rfl (V.eG 0 rfl rfl rfl ab aa rfl rfl) fun a b => Sc b (uI p.X _ _ h) rfl rfl rfl rfl call97 ?_));rintro v a w b ⟨m, rfl, h, i⟩;replace c := c.call i;refine Si b c h rfl (V.pure rfl) (fun _ h a b => ?_) fun _ h a b => ?_
 ·refine Al b <| Sv c (pn g 1) rfl (V.eF rfl rfl aF rfl aa rfl rfl) <| Sv c (iv p.Y) rfl (V.eG 0 rfl rfl rfl ab aa rfl rfl) fun a b => Sc b (uI p.Y _ _ h) rfl rfl rfl rfl call97 ?_;rintro v a w b ⟨e, rfl, h, i⟩;replace c := c.call i;refine Al b <| Sq (.bool e) rfl <| Sq (.bool e) rfl fun a b => X.n (wp_ret ?_);exact Lr b results61 rfl ⟨e, rfl, h, c.nil⟩
 ·refine Al b <| Sk rfl <| Sk rfl <| Sk rfl <| Sq (.bool false) rfl <| Sq (.bool false) rfl fun a b => X.n (wp_ret ?_);exact Lr b results61 rfl ⟨false, rfl, h, c.nil⟩
def lK (Q : Int → Prop) (next1 : Prop) (c2 : Bool) : Prop :=
  cnd c2 (Q 8) (next1)
def jF (b : (List Body)) (Q : Int → Prop) (k1 : Nat) (xk1 : Body) (next1 : Prop) (c1 : Bool) : Prop :=
  cnd c1 (Q 1) (iF xk1.Nozzle fun y2 => cnd (!y2) (Q 5) (cnd (decide ((k1 : Int) > 0)) (idx b (w64 ((k1 : Int) - 1)) fun x1 => lK Q next1 (gI xk1.Typ x1.Typ || xk1.Typ == x1.Typ)) (lK Q next1 false)))
def oW (b : (List Body)) (Q : Int → Prop) (k1 : Nat) (xk1 : Body)  (next1 : Prop) : Prop :=
  iF xk1.Typ fun y1 => cnd (!y1) (Q 5) (cnd (!(within xk1.W 1 100000)) (jF b Q k1 xk1 next1 true) (cnd (!(within xk1.H 1 100000)) (jF b Q k1 xk1 next1 true) (jF b Q k1 xk1 next1 (!(within xk1.Tall 1 100000)))))
def oP (b : (List Body)) (Q : Int → Prop) : Prop :=
  cnd (decide ((b.length : Int) > 200)) (Q 2) (forIn' (fun k x (s : Unit) next => oW b Q k x (next ())) (fun (s : Unit) => Q 0) b 0 ())
theorem CW (b : (List Body)) (A : World) (g : Option Addr) (r : Nat) (j : View A (old A none_) g r b) (Q : Int → Prop) (h : oP b Q) :
  Ret Tryz.prog 59 #[.slice g b.length r] A fun v w' => ∃ (Z : Int), v = iv Z ∧ Q Z ∧ Sat A none_ [] w' := by
 refine fC func59 rfl ntmps59 rfl (fs := [(0, _)]) rfl (fun a c => ?_);have e := Sat.start A none_;unfold oP at h;refine Yl c <| Sq (iv 0) rfl <| Xn <| Ws <| Xl <| Sq (.slice g b.length r) rfl <| Sv e (iv (b.length : Int)) rfl (V.len rfl rfl bY) <| Sq (.bool (decide ((b.length : Int) > 200))) rfl fun a c => X.n ?_;refine Ci c h rfl (fun _ h => ?_) fun o h => ?_
 ·refine Yl c <| Sq (iv 2) rfl fun a c => X.n (wp_ret (X.eu ?_));exact Lr c cC rfl ⟨2, rfl, h, e.nil⟩
 ·refine wp_skip (X.eH (wp_seq (Yl c <| Sq (.slice g b.length r) rfl <| Sv e (iv (b.length : Int)) rfl (V.len rfl rfl bY) <| Sq (iv 0) rfl fun a c => X.n (wp_block ?_))));have G := j.iL;refine C.range (fun (O : List Body) a w => ∃ (f : Nat) , b.drop f = O ∧ f + O.length = b.length ∧ forIn' (fun k x (s : Unit) P => oW b Q k x (P ())) (fun (s : Unit) => Q 0) O f () ∧ fB 57 [(10, iv (f : Int)), (0, .slice g b.length r), (8, .slice g b.length r), (9, iv (b.length : Int))] a ∧ Sat A none_ [] w) b ⟨0, rfl, Nat.zero_add _, h, (c.pk rfl), e⟩ ?_;clear h c e;rintro B a w ⟨f, I, u, h, c, e⟩
  cases B with
  | nil =>
   have o := fH u;replace h := fzx h;refine Yl c <| Sv e (.bool false) rfl (V.cmp false rfl rfl rfl rfl o) fun a c => X.n (wp_seq (C.no c rfl (wp_exit (X.eX (X.eX (X.fJ (X.eH (Yl c <| Sq (iv 0) rfl fun a c => X.n (wp_ret ?_)))))))));exact Lr c cC rfl ⟨0, rfl, h, e.nil⟩
  | cons d B =>
   have N := fZ u; have o := TM u; have E := fO I;obtain ⟨y, K, h⟩ := uf h;replace h : oW b Q f d  y := h;unfold oW at h;refine Yl c <| Sv e (.bool true) rfl (V.cmp true rfl rfl rfl rfl o) fun a c => X.n (wp_seq (C.yes c rfl (wp_skip (X.eH (wp_seq (wp_block (Yl c <| Sq (iv (f : Int)) rfl <| Sv e (fA g (f * 5)) rfl (V.index rfl rfl rfl bY aI (j.some_ (TL E)) (Int.natCast_nonneg _) (TL E) rfl) <| Sv e (.agg #[.string (ba d.Typ), iv d.W, iv d.H, iv d.Tall, .string (ba d.Nozzle)]) rfl (V.fP (off := 0) (Ag.args _ _ _) (j.flat E) rfl rfl rfl isAgg156 aI rfl rfl) fun a c => S.alloc c e rfl rfl rfl [.string (ba []), iv 0, iv 0, iv 0, .string (ba [])] rfl zeroValue156 rfl (fun z a w c e => Al c <| Sq (iv (f : Int)) rfl fun a c => S.fG 0 c e rfl rfl [.string (ba d.Typ), iv d.W, iv d.H, iv d.Tall, .string (ba d.Nozzle)] [.string (ba d.Typ), iv d.W, iv d.H, iv d.Tall, .string (ba d.Nozzle)] rfl rfl rfl rfl rfl aI rfl rfl rfl rfl (fun a w c e => X.n (wp_block (Yl c <| Sv e (pn z 0) rfl (V.eF rfl rfl bK rfl ac rfl rfl) <| Sv e (.string (ba d.Typ)) rfl (V.eG 0 rfl rfl rfl ae ac rfl rfl) fun a c => Sc c (jJ d.Typ _ _ h) rfl rfl rfl rfl call43 ?_)))))))))));rintro v a w c ⟨y1, rfl, h, i⟩;replace e := e.call i;refine Al c <| Sq (.bool (!y1)) rfl <| Sq (.bool (!y1)) rfl fun a c => X.n ?_;refine Ci c h rfl (fun _ h => ?_) fun o h => ?_
   ·refine Yl c <| Sq (iv 5) rfl fun a c => X.n (wp_ret (X.eP (X.eP (X.eu (X.eu (X.eP (X.eu ?_)))))));exact Lr c cC rfl ⟨5, rfl, h, e.nil⟩
   ·refine wp_seq ?_;refine C.cut (J := fun a w => ∃ (T : Bool), jF b Q f d y T ∧ fB 57 [(0, .slice g b.length r), (3, iv (f : Int)), (4, (pn z 0)), (8, .slice g b.length r), (9, iv (b.length : Int)), (10, iv (f : Int)), (20, .bool T)] a ∧ Sat A none_ [hbox z 156 [.string (ba d.Typ), iv d.W, iv d.H, iv d.Tall, .string (ba d.Nozzle)]] w) ?_ ?_
    ·rintro a w ⟨T, h, c, e⟩;unfold jF at h;refine Ci c h rfl (fun _ h => ?_) fun o h => ?_
     ·refine Yl c <| Sq (iv 1) rfl fun a c => X.n (wp_ret (X.eP (X.eP (X.eu (X.eu (X.eP (X.eu ?_)))))));exact Lr c cC rfl ⟨1, rfl, h, e.nil⟩
     ·refine Yl c <| Sv e (pn z 4) rfl (V.eF rfl rfl bK rfl ac rfl rfl) <| Sv e (.string (ba d.Nozzle)) rfl (V.eG 0 rfl rfl rfl ae ac rfl rfl) fun a c => Sc c (jJ d.Nozzle _ _ h) rfl rfl rfl rfl call43 ?_;rintro v a w c ⟨y2, rfl, h, i⟩;replace e := e.call i;refine Al c <| Sq (.bool (!y2)) rfl <| Sq (.bool (!y2)) rfl fun a c => X.n ?_;refine Ci c h rfl (fun _ h => ?_) fun o h => ?_
      ·refine Yl c <| Sq (iv 5) rfl fun a c => X.n (wp_ret (X.eP (X.eP (X.eu (X.eu (X.eP (X.eu ?_)))))));exact Lr c cC rfl ⟨5, rfl, h, e.nil⟩
      ·refine wp_seq ?_;refine C.cut (J := fun a w => ∃ (U : Bool), lK Q y U ∧ fB 57 [(0, .slice g b.length r), (8, .slice g b.length r), (9, iv (b.length : Int)), (10, iv (f : Int)), (42, .bool U)] a ∧ Sat A none_ [hbox z 156 [.string (ba d.Typ), iv d.W, iv d.H, iv d.Tall, .string (ba d.Nozzle)]] w) ?_ ?_
       ·rintro a w ⟨U, h, c, e⟩;unfold lK at h;refine Ci c h rfl (fun _ h => ?_) fun _ h => ?_
        ·refine Yl c <| Sq (iv 8) rfl fun a c => X.n (wp_ret (X.eP (X.eP (X.eu (X.eu (X.eP (X.eu ?_)))))));exact Lr c cC rfl ⟨8, rfl, h, e.nil⟩
        ·refine wp_skip (X.blk (X.blk (X.eH (Rm c <| Sv e (iv ((f + 1 : Nat) : Int)) rfl (V.jb rfl rfl rfl N G) <| Sq (iv ((f + 1 : Nat) : Int)) rfl fun a c => X.n ?_))));exact ⟨d, B, rfl, f + 1, fE I, fF u, (by rw [K] at h; exact h), (c.pk rfl), e.drop⟩
       ·skip
        refine R.draw mo (by kernel_rfl) e (Ad c <| Dq (iv (f : Int)) rfl <| Dq (.bool (decide ((f : Int) > 0))) rfl fun a c => ?_);refine D.split c (b := decide ((f : Int) > 0)) rfl rfl rfl (V.pure rfl) (fun o a c => ?_) (fun o a c => ?_)
        ·replace h := h.1 o;refine Ad c <| Dw (pn z 0) rfl (V.eF rfl rfl bK rfl ac rfl rfl) <| Dw (.string (ba d.Typ)) rfl (V.eG 0 rfl rfl rfl ae ac rfl rfl) <| Dq (.slice g b.length r) rfl <| Dq (iv (f : Int)) rfl <| Dq (iv (w64 ((f : Int) - 1))) rfl fun a c => ?_;obtain ⟨Y, t, F, h⟩ := h;refine Ad c <| Dw (fA g ((w64 ((f : Int) - 1)).toNat * 5)) rfl (V.index rfl rfl rfl bY aI (j.some_ (TL F)) Y (TL F) rfl) <| Dw (fA g ((w64 ((f : Int) - 1)).toNat * 5)) rfl (V.iZ rfl rfl (j.some_ (TL F)) bK rfl ac rfl rfl) <| Dw (.string (ba t.Typ)) rfl (V.fP (off := 0) (Ag.args _ _ _) (j.flat F) rfl rfl rfl ae ac rfl rfl) <| Dw (.bool (gI d.Typ t.Typ || d.Typ == t.Typ)) rfl (V.qL (gI d.Typ t.Typ || d.Typ == t.Typ) rfl rfl rfl rfl) <| Dq (.bool (gI d.Typ t.Typ || d.Typ == t.Typ)) rfl <| Dq (.bool (gI d.Typ t.Typ || d.Typ == t.Typ)) rfl fun a c => D.done (fun w e => X.eH ?_);exact ⟨(gI d.Typ t.Typ || d.Typ == t.Typ), h, (c.pk rfl), e⟩
        ·replace h := h.2 o;refine Ad c <| Dk rfl <| Dk rfl <| Dk rfl <| Dk rfl <| Dk rfl <| Dk rfl <| Dk rfl <| Dk rfl <| Dk rfl <| Dq (.bool false) rfl <| Dq (.bool false) rfl fun a c => D.done (fun w e => X.eH ?_);exact ⟨false, h, (c.pk rfl), e⟩
    ·skip
     refine Rm c <| Sv e (pn z 1) rfl (V.eF rfl rfl bK rfl aa rfl rfl) <| Sv e (iv d.W) rfl (V.eG 0 rfl rfl rfl ab aa rfl rfl) fun a c => Su c (xg d.W 1 100000 _) rfl rfl rfl rfl call62 (fun a w c m => ?_);replace e := e.call m; clear m;refine Al c <| Sq (.bool (!(within d.W 1 100000))) rfl fun a c => ?_;refine Si c e h rfl (V.pure rfl) (fun _ h a c => ?_) fun o h a c => ?_
     ·refine Al c <| Sk rfl <| Sk rfl <| Sk rfl <| Sk rfl <| Sq (.bool true) rfl <| Sq (.bool true) rfl <| Sk rfl <| Sk rfl <| Sk rfl <| Sk rfl <| Sq (.bool true) rfl <| Sq (.bool true) rfl fun a c => X.n ?_;exact ⟨true, h, (c.pk rfl), e⟩
     ·refine Al c <| Sv e (pn z 2) rfl (V.eF rfl rfl bK rfl aa rfl rfl) <| Sv e (iv d.H) rfl (V.eG 0 rfl rfl rfl ab aa rfl rfl) fun a c => Su c (xg d.H 1 100000 _) rfl rfl rfl rfl call62 (fun a w c m => ?_);replace e := e.call m; clear m;refine Al c <| Sq (.bool (!(within d.H 1 100000))) rfl <| Sq (.bool (!(within d.H 1 100000))) rfl fun a c => ?_;refine Si c e h rfl (V.pure rfl) (fun _ h a c => ?_) fun _ h a c => ?_
      ·refine Al c <| Sk rfl <| Sk rfl <| Sk rfl <| Sk rfl <| Sq (.bool true) rfl <| Sq (.bool true) rfl fun a c => X.n ?_;exact ⟨true, h, (c.pk rfl), e⟩
      ·refine Al c <| Sv e (pn z 3) rfl (V.eF rfl rfl bK rfl aa rfl rfl) <| Sv e (iv d.Tall) rfl (V.eG 0 rfl rfl rfl ab aa rfl rfl) fun a c => Su c (xg d.Tall 1 100000 _) rfl rfl rfl rfl call62 (fun a w c m => ?_);replace e := e.call m; clear m;refine Al c <| Sq (.bool (!(within d.Tall 1 100000))) rfl <| Sq (.bool (!(within d.Tall 1 100000))) rfl <| Sq (.bool (!(within d.Tall 1 100000))) rfl fun a c => X.n ?_;exact ⟨(!(within d.Tall 1 100000)), h, (c.pk rfl), e⟩
def Ce (x_ : Body) (s_ : Str) (Q : Int → Prop) : Prop :=
  Q (iw x_.Typ s_)
theorem JO (b : Body) (e : Str) (g : World)  (Q : Int → Prop) (h : Ce b e Q) :
  Ret Tryz.prog 96 #[.agg #[.string (ba b.Typ), iv b.W, iv b.H, iv b.Tall, .string (ba b.Nozzle)], .string (ba e)] g fun v j => ∃ (i : Int), v = iv i ∧ Q i ∧ Sat g none_ [] j := by
 refine fC func96 rfl ntmps96 rfl (fs := [(0, _), (1, _)]) rfl (fun a c => ?_);have d := Sat.start g none_;unfold Ce at h;refine X.l (S.box c d rfl rfl rfl [.string (ba b.Typ), iv b.W, iv b.H, iv b.Tall, .string (ba b.Nozzle)] rfl rfl rfl (fun m a w c d => Al c <| Sq (iv 0) rfl <| Xn <| Xl <| Sv d (pn m 0) rfl (V.eF rfl rfl bK rfl ac rfl rfl) <| Sv d (.string (ba b.Typ)) rfl (V.eG 0 rfl rfl rfl ae ac rfl rfl) <| Sq (.string (ba e)) rfl fun a c => Su c (jT b.Typ e _) rfl rfl rfl rfl call75 (fun a w c f => ?_)));replace d := d.call f; clear f;refine Al c <| Sq (iv (iw b.Typ e)) rfl fun a c => X.n (wp_ret ?_);exact Lr c results96 rfl ⟨(iw b.Typ e), rfl, h, d.nil⟩
def uF (x_ : (List Body)) (target : Str) (Q : Int → Bool → Prop) (again1 : Int → Int → Prop) (n3 : Int) (n4 : Int) : Prop :=
  cnd (decide (n3 < n4)) (idx x_ (cvt .i64 (ja .u64 (cvt .u64 (w64 (n3 + n4))) 1)) fun x1 => Ce x1 target fun y1 => cnd (decide (y1 < 0)) (again1 (w64 ((cvt .i64 (ja .u64 (cvt .u64 (w64 (n3 + n4))) 1)) + 1)) n4) (again1 n3 (cvt .i64 (ja .u64 (cvt .u64 (w64 (n3 + n4))) 1)))) (cnd (decide (n3 < (x_.length : Int))) (idx x_ n3 fun x2 => Ce x2 target fun y2 => Q n3 (y2 == 0)) (Q n3 false))
def xX (x_ : (List Body)) (target : Str) (Q : Int → Bool → Prop) : Prop :=
  lp (fun again (s : Int × Int) => uF x_ target Q (fun n3 n4 => again (n3, n4)) s.1 s.2) (0, (x_.length : Int))
theorem Jw (g : (List Body)) (d : Str) (t : World) (j : Option Addr) (o : Nat) (m : View t (old t none_) j o g) (Q : Int → Bool → Prop) (h : xX g d Q) :
  Ret Tryz.prog 95 #[.slice j g.length o, .string (ba d), .func (.func 96) #[] #[]] t fun v N => ∃ (J : Int) (K : Bool), v = .tuple #[iv J, .bool K] ∧ Q J K ∧ Sat t none_ [] N := by
 refine fC func95 rfl ntmps95 rfl (fs := [(0, _), (1, _), (2, _)]) rfl (fun a b => ?_);have f := Sat.start t none_;unfold xX at h;refine Yl b <| Sq (iv 0) rfl <| Sq (.bool false) rfl <| Xn <| Xl <| Sq (.slice j g.length o) rfl <| Sv f (iv (g.length : Int)) rfl (V.len rfl rfl bY) <| Sq (iv (g.length : Int)) rfl <| Xn <| Xl <| Sq (iv (g.length : Int)) rfl <| Sq (iv 0) rfl <| Sq (iv (g.length : Int)) rfl fun a b => X.n (wp_seq (wp_block ?_));obtain ⟨B, h⟩ := h;refine C.loop (fun B a w => ∃ (c : Int) (e : Int), nC (fun E (s : Int × Int) => uF g d Q (fun c e => E (c, e)) s.1 s.2) B (c, e) ∧ fB 49 [(0, .slice j g.length o), (1, .string (ba d)), (2, .func (.func 96) #[] #[]), (8, iv (g.length : Int)), (9, iv c), (10, iv e)] a ∧ Sat t none_ [] w) B ⟨0, (g.length : Int), h, (b.pk rfl), f⟩ (fun a w ⟨_, _, h, _, _⟩ => h) ?_;clear h b f;rintro B a w ⟨c, e, h, b, f⟩;obtain ⟨y, r, h⟩ := KQ h;replace h : uF g d Q y c e := h;unfold uF at h;refine wp_seq (Yl b <| Sq (iv c) rfl <| Sq (iv e) rfl <| Sq (.bool (decide (c < e))) rfl fun a b => X.n ?_);refine Ci b h rfl (fun O h => ?_) fun O h => ?_
 ·refine wp_skip (X.eH (wp_block (Yl b <| Sq (iv c) rfl <| Sq (iv e) rfl <| Sq (iv (w64 (c + e))) rfl <| Sv f (.int .u64 (cvt .u64 (w64 (c + e)))) rfl (V.conv rfl rfl bz bB) <| Sv f (.int .u64 (ja .u64 (cvt .u64 (w64 (c + e))) 1)) rfl (V.shr rfl rfl rfl (by decide)) <| Sv f (iv (cvt .i64 (ja .u64 (cvt .u64 (w64 (c + e))) 1))) rfl (V.conv rfl rfl bB bz) <| Sq (iv (cvt .i64 (ja .u64 (cvt .u64 (w64 (c + e))) 1))) rfl <| Xn <| Xl <| Sq (.func (.func 96) #[] #[]) rfl <| Sq (.slice j g.length o) rfl <| Sq (iv (cvt .i64 (ja .u64 (cvt .u64 (w64 (c + e))) 1))) rfl fun a b => ?_)));obtain ⟨G, u, z, h⟩ := h;refine Al b <| Sv f (fA j ((cvt .i64 (ja .u64 (cvt .u64 (w64 (c + e))) 1)).toNat * 5)) rfl (V.index rfl rfl rfl bY aI (m.some_ (TL z)) G (TL z) rfl) <| Sv f (.agg #[.string (ba u.Typ), iv u.W, iv u.H, iv u.Tall, .string (ba u.Nozzle)]) rfl (V.fP (off := 0) (Ag.args _ _ _) (m.flat z) rfl rfl rfl isAgg156 aI rfl rfl) <| Sq (.string (ba d)) rfl fun a b => Sc b (JO u d _ _ h) rfl rfl rfl rfl call96 ?_;rintro v a w b ⟨P, rfl, h, i⟩;replace f := f.call i;refine Al b <| Sq (.bool (decide (P < 0))) rfl fun a b => X.n ?_;refine Ci b h rfl (fun _ h => ?_) fun _ h => ?_
  ·refine Rm b <| Sq (iv (cvt .i64 (ja .u64 (cvt .u64 (w64 (c + e))) 1))) rfl <| Sq (iv (w64 ((cvt .i64 (ja .u64 (cvt .u64 (w64 (c + e))) 1)) + 1))) rfl <| Sq (iv (w64 ((cvt .i64 (ja .u64 (cvt .u64 (w64 (c + e))) 1)) + 1))) rfl fun a b => R.nil (X.blk (X.eH ?_));exact ⟨(w64 ((cvt .i64 (ja .u64 (cvt .u64 (w64 (c + e))) 1)) + 1)), e, (by rw [r] at h; exact h), (b.pk rfl), f⟩
  ·refine Rm b <| Sq (iv (cvt .i64 (ja .u64 (cvt .u64 (w64 (c + e))) 1))) rfl <| Sq (iv (cvt .i64 (ja .u64 (cvt .u64 (w64 (c + e))) 1))) rfl fun a b => R.nil (X.blk (X.eH ?_));exact ⟨c, (cvt .i64 (ja .u64 (cvt .u64 (w64 (c + e))) 1)), (by rw [r] at h; exact h), (b.pk rfl), f⟩
 ·refine wp_exit (X.eX (X.eX (X.fJ (X.eH (Yl b <| Sq (iv c) rfl <| Sq (iv c) rfl <| Sq (iv (g.length : Int)) rfl <| Sq (.bool (decide (c < (g.length : Int)))) rfl fun a b => ?_)))));refine Si b f h rfl (V.pure rfl) (fun _ h a b => ?_) fun _ h a b => ?_
  ·refine Al b <| Sq (.func (.func 96) #[] #[]) rfl <| Sq (.slice j g.length o) rfl <| Sq (iv c) rfl fun a b => ?_;obtain ⟨I, x, A, h⟩ := h;refine Al b <| Sv f (fA j (c.toNat * 5)) rfl (V.index rfl rfl rfl bY aI (m.some_ (TL A)) I (TL A) rfl) <| Sv f (.agg #[.string (ba x.Typ), iv x.W, iv x.H, iv x.Tall, .string (ba x.Nozzle)]) rfl (V.fP (off := 0) (Ag.args _ _ _) (m.flat A) rfl rfl rfl isAgg156 aI rfl rfl) <| Sq (.string (ba d)) rfl fun a b => Sc b (JO x d _ _ h) rfl rfl rfl rfl call96 ?_;rintro v a w b ⟨F, rfl, h, i⟩;replace f := f.call i;refine Al b <| Sq (.bool (F == 0)) rfl <| Sq (.bool (F == 0)) rfl <| Sq (iv c) rfl <| Sq (.bool (F == 0)) rfl fun a b => X.n (wp_ret ?_);exact Ls b results95 rfl rfl ⟨c, (F == 0), rfl, h, f.nil⟩
  ·refine Al b <| Sk rfl <| Sk rfl <| Sk rfl <| Sk rfl <| Sk rfl <| Sk rfl <| Sk rfl <| Sk rfl <| Sq (.bool false) rfl <| Sq (iv c) rfl <| Sq (.bool false) rfl fun a b => X.n (wp_ret ?_);exact Ls b results95 rfl rfl ⟨c, false, rfl, h, f.nil⟩
def uy (b : (List Body)) (name : Str) (Q : Body → Bool → Prop) : Prop :=
  xX b name fun y1 y2 => cnd (!y2) (Q (⟨[], 0, 0, 0, []⟩ : Body) false) (idx b y1 fun x1 => Q x1 true)
theorem Ik (b : (List Body)) (f : Str) (o : World) (j : Option Addr) (r : Nat) (g : View o (old o none_) j r b) (Q : Body → Bool → Prop) (h : uy b f Q) :
  Ret Tryz.prog 60 #[.slice j b.length r, .string (ba f)] o fun v A => ∃ (m : Body) (z : Bool), v = .tuple #[.agg #[.string (ba m.Typ), iv m.W, iv m.H, iv m.Tall, .string (ba m.Nozzle)], .bool z] ∧ Q m z ∧ Sat o none_ [] A := by
 refine fC func60 rfl ntmps60 rfl (fs := [(0, _), (1, _)]) rfl (fun a c => ?_);have d := Sat.start o none_;unfold uy at h;refine X.l (S.alloc c d rfl rfl rfl [.string (ba []), iv 0, iv 0, iv 0, .string (ba [])] rfl zeroValue156 rfl (fun B a w c d => Al c <| Sq (.bool false) rfl <| Xn <| Xl <| Sq (.slice j b.length r) rfl <| Sq (.string (ba f)) rfl fun a c => Sc c (Jw b f _ j r (Va g d) _ h) rfl rfl rfl rfl call95 ?_));rintro v a w c ⟨s, t, rfl, h, i⟩;replace d := d.call i;refine Al c <| Sq (.tuple #[iv s, .bool t]) rfl <| Sq (iv s) rfl <| Sq (.bool t) rfl <| Sq (iv s) rfl <| Sq (.bool t) rfl <| Xn <| Ws <| Xl <| Sq (.bool t) rfl <| Sq (.bool (!t)) rfl fun a c => X.n ?_;refine Ci c h rfl (fun _ h => ?_) fun _ h => ?_
 ·refine Yl c <| Sv d (.agg #[.string (ba []), iv 0, iv 0, iv 0, .string (ba [])]) rfl (V.build (places := #[(0, 1), (1, 1), (2, 1), (3, 1), (4, 1)]) rfl zeroValue156 bK (by intro w; simp [aa, ac]) rfl rfl) fun a c => S.fG 0 c d rfl rfl [.string (ba []), iv 0, iv 0, iv 0, .string (ba [])] [.string (ba []), iv 0, iv 0, iv 0, .string (ba [])] rfl rfl rfl rfl rfl aI rfl rfl rfl rfl (fun a w c d => Al c <| Sq (.bool false) rfl fun a c => X.n (wp_ret (X.eu ?_)));have u := d;exact L.ret c (xq results60 (iH.box c u 0 rfl rfl isAgg156 aI rfl rfl) (iH.tmp c rfl)) ⟨(⟨[], 0, 0, 0, []⟩ : Body), false, rfl, h, d.nil⟩
 ·refine wp_skip (X.eH (Yl c <| Sq (.slice j b.length r) rfl <| Sq (iv s) rfl fun a c => ?_));obtain ⟨y, e, x, h⟩ := h;refine Al c <| Sv d (fA j (s.toNat * 5)) rfl (V.index rfl rfl rfl bY aI (g.some_ (TL x)) y (TL x) rfl) <| Sv d (.agg #[.string (ba e.Typ), iv e.W, iv e.H, iv e.Tall, .string (ba e.Nozzle)]) rfl (V.fP (off := 0) (Ag.args _ _ _) (g.flat x) rfl rfl rfl isAgg156 aI rfl rfl) fun a c => S.fG 0 c d rfl rfl [.string (ba e.Typ), iv e.W, iv e.H, iv e.Tall, .string (ba e.Nozzle)] [.string (ba e.Typ), iv e.W, iv e.H, iv e.Tall, .string (ba e.Nozzle)] rfl rfl rfl rfl rfl aI rfl rfl rfl rfl (fun a w c d => Al c <| Sq (.bool true) rfl fun a c => X.n (wp_ret ?_));have u := d;exact L.ret c (xq results60 (iH.box c u 0 rfl rfl isAgg156 aI rfl rfl) (iH.tmp c rfl)) ⟨e, true, rfl, h, d.nil⟩
def kX (Q : Int → Prop) (next1 : Prop) (c2 : Bool) : Prop :=
  cnd c2 (Q 8) (next1)
def jH (l : (List Place)) (Q : Int → Prop) (k1 : Nat) (xk1 : Place) (next1 : Prop) (c1 : Bool) : Prop :=
  cnd c1 (Q 1) (cnd (decide ((k1 : Int) > 0)) (idx l (w64 ((k1 : Int) - 1)) fun x1 => kX Q next1 (gI xk1.Part x1.Part || xk1.Part == x1.Part)) (kX Q next1 false))
def lF (b : (List Body)) (l : (List Place)) (Q : Int → Prop) (k1 : Nat) (xk1 : Place)  (next1 : Prop) : Prop :=
  uy b xk1.Typ fun y2 y3 => kG xk1.Part fun y4 => cnd (!y4) (Q 5) (cnd (!y3) (Q 9) (qj xk1.At fun y5 => cnd (!y5) (jH l Q k1 xk1 next1 true) (jH l Q k1 xk1 next1 (!(within xk1.Quarters 0 3)))))
def lT (b : (List Body)) (l : (List Place)) (Q : Int → Prop) : Prop :=
  oP b fun y1 => cnd (y1 != 0) (Q y1) (cnd (decide ((l.length : Int) > 1000)) (Q 2) (forIn' (fun k x (s : Unit) next => lF b l Q k x (next ())) (fun (s : Unit) => Q 0) l 0 ()))
theorem Dc (b : (List Body)) (l : (List Place)) (u : World) (y : Option Addr) (z : Nat) (O : View u (old u none_) y z b) (j : Option Addr) (r : Nat) (m : View u (old u none_) j r l) (Q : Int → Prop) (h : lT b l Q) :
  Ret Tryz.prog 23 #[.slice y b.length z, .slice j l.length r] u fun v w' => ∃ (r0 : Int), v = iv r0 ∧ Q r0 ∧ Sat u none_ [] w' := by
 refine fC func23 rfl ntmps23 rfl (fs := [(0, _), (1, _)]) rfl (fun a c => ?_);have e := Sat.start u none_;unfold lT at h;refine Yl c <| Sq (iv 0) rfl <| Xn <| Ws <| Xl <| Sq (.slice y b.length z) rfl fun a c => Sc c (CW b _ y z (Va O e) _ h) rfl rfl rfl rfl call59 ?_;rintro v a w c ⟨K, rfl, h, i⟩;replace e := e.call i;refine Al c <| Sq (iv K) rfl <| Xn <| Xl <| Sq (iv K) rfl <| Sq (.bool (K != 0)) rfl fun a c => X.n ?_;refine Ci c h rfl (fun _ h => ?_) fun o h => ?_
 ·refine Yl c <| Sq (iv K) rfl <| Sq (iv K) rfl fun a c => X.n (wp_ret (X.eu ?_));exact Lr c cr rfl ⟨K, rfl, h, e.nil⟩
 ·refine wp_skip (X.eH (wp_seq (Yl c <| Sq (.slice j l.length r) rfl <| Sv e (iv (l.length : Int)) rfl (V.len rfl rfl cX) <| Sq (.bool (decide ((l.length : Int) > 1000))) rfl fun a c => X.n ?_)));refine Ci c h rfl (fun _ h => ?_) fun o h => ?_
  ·refine Yl c <| Sq (iv 2) rfl fun a c => X.n (wp_ret (X.eu ?_));exact Lr c cr rfl ⟨2, rfl, h, e.nil⟩
  ·refine wp_skip (X.eH (wp_seq (Yl c <| Sq (.slice j l.length r) rfl <| Sv e (iv (l.length : Int)) rfl (V.len rfl rfl cX) <| Sq (iv 0) rfl fun a c => X.n (wp_block ?_))));have P := m.iL;refine C.range (fun (ll : List Place) a w => ∃ (g : Nat) , l.drop g = ll ∧ g + ll.length = l.length ∧ forIn' (fun k x (s : Unit) an => lF b l Q k x (an ())) (fun (s : Unit) => Q 0) ll g () ∧ fB 66 [(20, iv (g : Int)), (0, .slice y b.length z), (1, .slice j l.length r), (18, .slice j l.length r), (19, iv (l.length : Int))] a ∧ Sat u none_ [] w) l ⟨0, rfl, Nat.zero_add _, h, (c.pk rfl), e⟩ ?_;clear h c e;rintro F a w ⟨g, T, A, h, c, e⟩
   cases F with
   | nil =>
    have o := fH A;replace h := fzx h;refine Yl c <| Sv e (.bool false) rfl (V.cmp false rfl rfl rfl rfl o) fun a c => X.n (wp_seq (C.no c rfl (wp_exit (X.eX (X.eX (X.fJ (X.eH (Yl c <| Sq (iv 0) rfl fun a c => X.n (wp_ret ?_)))))))));exact Lr c cr rfl ⟨0, rfl, h, e.nil⟩
   | cons d F =>
    have Z := fZ A; have o := TM A; have G := fO T;obtain ⟨B, U, h⟩ := uf h;replace h : lF b l Q g d  B := h;unfold lF at h;refine Yl c <| Sv e (.bool true) rfl (V.cmp true rfl rfl rfl rfl o) fun a c => X.n (wp_seq (C.yes c rfl (wp_skip (X.eH (wp_seq (wp_block (Yl c <| Sq (iv (g : Int)) rfl <| Sv e (fA j (g * 6)) rfl (V.index rfl rfl rfl cX sizeOf154 (m.some_ (TL G)) (Int.natCast_nonneg _) (TL G) rfl) <| Sv e (.agg #[.string (ba d.Part), .string (ba d.Typ), iv d.At.X, iv d.At.Y, iv d.Quarters, .bool d.Below]) rfl (V.fP (off := 0) (Ag.args _ _ _) (m.flat G) rfl rfl rfl isAgg154 sizeOf154 rfl rfl) fun a c => S.alloc c e rfl rfl rfl [.string (ba []), .string (ba []), iv 0, iv 0, iv 0, .bool false] rfl zeroValue154 rfl (fun E a w c e => Al c <| Sq (iv (g : Int)) rfl fun a c => S.fG 0 c e rfl rfl [.string (ba d.Part), .string (ba d.Typ), iv d.At.X, iv d.At.Y, iv d.Quarters, .bool d.Below] [.string (ba d.Part), .string (ba d.Typ), iv d.At.X, iv d.At.Y, iv d.Quarters, .bool d.Below] rfl rfl rfl rfl rfl sizeOf154 rfl rfl rfl rfl (fun a w c e => X.n (Yl c <| Sq (.slice y b.length z) rfl <| Sv e (pn E 1) rfl (V.eF rfl rfl cD rfl ac rfl rfl) <| Sv e (.string (ba d.Typ)) rfl (V.eG 0 rfl rfl rfl ae ac rfl rfl) fun a c => Sc c (Ik b d.Typ _ y z (Va O e) _ h) rfl rfl rfl rfl call60 ?_))))))))));rintro v a w c ⟨f, N, rfl, h, i⟩;replace e := e.call i;refine Al c <| Sq (.tuple #[.agg #[.string (ba f.Typ), iv f.W, iv f.H, iv f.Tall, .string (ba f.Nozzle)], .bool N]) rfl <| Sq (.agg #[.string (ba f.Typ), iv f.W, iv f.H, iv f.Tall, .string (ba f.Nozzle)]) rfl <| Sq (.bool N) rfl fun a c => S.alloc c e rfl rfl rfl [.string (ba []), iv 0, iv 0, iv 0, .string (ba [])] rfl zeroValue156 rfl (fun g2 a w c e => S.fG 0 c e rfl rfl [.string (ba f.Typ), iv f.W, iv f.H, iv f.Tall, .string (ba f.Nozzle)] [.string (ba f.Typ), iv f.W, iv f.H, iv f.Tall, .string (ba f.Nozzle)] rfl rfl rfl rfl rfl aI rfl rfl rfl rfl (fun a w c e => Al c <| Sq (.bool N) rfl <| Xn <| Wb <| Xl <| Sv e (pn E 0) rfl (V.eF rfl rfl cD rfl ac rfl rfl) <| Sv e (.string (ba d.Part)) rfl (V.eG 1 rfl rfl rfl ae ac rfl rfl) fun a c => Sc c (uS d.Part _ _ h) rfl rfl rfl rfl call50 ?_));rintro v a w c ⟨y4, rfl, h, i⟩;replace e := e.call i;refine Al c <| Sq (.bool (!y4)) rfl <| Sq (.bool (!y4)) rfl fun a c => X.n ?_;refine Ci c h rfl (fun _ h => ?_) fun o h => ?_
    ·refine Yl c <| Sq (iv 5) rfl fun a c => X.n (wp_ret (X.eP (X.eP (X.eu (X.eu (X.eP (X.eu ?_)))))));exact Lr c cr rfl ⟨5, rfl, h, e.nil⟩
    ·refine Yl c <| Sq (.bool N) rfl <| Sq (.bool (!N)) rfl <| Sq (.bool (!N)) rfl fun a c => X.n ?_;refine Ci c h rfl (fun _ h => ?_) fun o h => ?_
     ·refine Yl c <| Sq (iv 9) rfl fun a c => X.n (wp_ret (X.eP (X.eP (X.eu (X.eu (X.eP (X.eu ?_)))))));exact Lr c cr rfl ⟨9, rfl, h, e.nil⟩
     ·refine wp_seq ?_;refine C.cut (J := fun a w => ∃ (c1 : Bool), jH l Q g d B c1 ∧ fB 66 [(0, .slice y b.length z), (1, .slice j l.length r), (6, iv (g : Int)), (7, (pn E 0)), (18, .slice j l.length r), (19, iv (l.length : Int)), (20, iv (g : Int)), (40, .bool c1)] a ∧ Sat u none_ [hbox g2 156 [.string (ba f.Typ), iv f.W, iv f.H, iv f.Tall, .string (ba f.Nozzle)], hbox E 154 [.string (ba d.Part), .string (ba d.Typ), iv d.At.X, iv d.At.Y, iv d.Quarters, .bool d.Below]] w) ?_ ?_
      ·rintro a w ⟨c1, h, c, e⟩;unfold jH at h;refine Ci c h rfl (fun _ h => ?_) fun o h => ?_
       ·refine Yl c <| Sq (iv 1) rfl fun a c => X.n (wp_ret (X.eP (X.eP (X.eu (X.eu (X.eP (X.eu ?_)))))));exact Lr c cr rfl ⟨1, rfl, h, e.nil⟩
       ·refine wp_seq ?_;refine C.cut (J := fun a w => ∃ (c2 : Bool), kX Q B c2 ∧ fB 66 [(0, .slice y b.length z), (1, .slice j l.length r), (18, .slice j l.length r), (19, iv (l.length : Int)), (20, iv (g : Int)), (51, .bool c2)] a ∧ Sat u none_ [hbox g2 156 [.string (ba f.Typ), iv f.W, iv f.H, iv f.Tall, .string (ba f.Nozzle)], hbox E 154 [.string (ba d.Part), .string (ba d.Typ), iv d.At.X, iv d.At.Y, iv d.Quarters, .bool d.Below]] w) ?_ ?_
        ·rintro a w ⟨c2, h, c, e⟩;unfold kX at h;refine Ci c h rfl (fun _ h => ?_) fun _ h => ?_
         ·refine Yl c <| Sq (iv 8) rfl fun a c => X.n (wp_ret (X.eP (X.eP (X.eu (X.eu (X.eP (X.eu ?_)))))));exact Lr c cr rfl ⟨8, rfl, h, e.nil⟩
         ·refine wp_skip (X.blk (X.blk (X.eH (Rm c <| Sv e (iv ((g + 1 : Nat) : Int)) rfl (V.jb rfl rfl rfl Z P) <| Sq (iv ((g + 1 : Nat) : Int)) rfl fun a c => X.n ?_))));exact ⟨d, F, rfl, g + 1, fE T, fF A, (by rw [U] at h; exact h), (c.pk rfl), e.drop.drop⟩
        ·skip
         refine R.draw mo (by kernel_rfl) e (Ad c <| Dq (iv (g : Int)) rfl <| Dq (.bool (decide ((g : Int) > 0))) rfl fun a c => ?_);refine D.split c (b := decide ((g : Int) > 0)) rfl rfl rfl (V.pure rfl) (fun o a c => ?_) (fun o a c => ?_)
         ·replace h := h.1 o;refine Ad c <| Dw (pn E 0) rfl (V.eF rfl rfl cD rfl ac rfl rfl) <| Dw (.string (ba d.Part)) rfl (V.eG 1 rfl rfl rfl ae ac rfl rfl) <| Dq (.slice j l.length r) rfl <| Dq (iv (g : Int)) rfl <| Dq (iv (w64 ((g : Int) - 1))) rfl fun a c => ?_;obtain ⟨a1, t, I, h⟩ := h;refine Ad c <| Dw (fA j ((w64 ((g : Int) - 1)).toNat * 6)) rfl (V.index rfl rfl rfl cX sizeOf154 (m.some_ (TL I)) a1 (TL I) rfl) <| Dw (fA j ((w64 ((g : Int) - 1)).toNat * 6)) rfl (V.iZ rfl rfl (m.some_ (TL I)) cD rfl ac rfl rfl) <| Dw (.string (ba t.Part)) rfl (V.fP (off := 0) (Ag.args _ _ _) (m.flat I) rfl rfl rfl ae ac rfl rfl) <| Dw (.bool (gI d.Part t.Part || d.Part == t.Part)) rfl (V.qL (gI d.Part t.Part || d.Part == t.Part) rfl rfl rfl rfl) <| Dq (.bool (gI d.Part t.Part || d.Part == t.Part)) rfl <| Dq (.bool (gI d.Part t.Part || d.Part == t.Part)) rfl fun a c => D.done (fun w e => X.eH ?_);exact ⟨(gI d.Part t.Part || d.Part == t.Part), h, (c.pk rfl), e⟩
         ·replace h := h.2 o;refine Ad c <| Dk rfl <| Dk rfl <| Dk rfl <| Dk rfl <| Dk rfl <| Dk rfl <| Dk rfl <| Dk rfl <| Dk rfl <| Dq (.bool false) rfl <| Dq (.bool false) rfl fun a c => D.done (fun w e => X.eH ?_);exact ⟨false, h, (c.pk rfl), e⟩
      ·skip
       refine Rm c <| Sv e (pn E 2) rfl (V.eF rfl rfl cD rfl ao rfl rfl) <| Sv e (.agg #[iv d.At.X, iv d.At.Y]) rfl (V.eG 1 rfl rfl rfl aP ao rfl rfl) fun a c => Sc c (Bj d.At _ _ h) rfl rfl rfl rfl call61 ?_;rintro v a w c ⟨y5, rfl, h, i⟩;replace e := e.call i;refine Al c <| Sq (.bool (!y5)) rfl fun a c => ?_;refine Si c e h rfl (V.pure rfl) (fun _ h a c => ?_) fun _ h a c => ?_
       ·refine Al c <| Sk rfl <| Sk rfl <| Sk rfl <| Sk rfl <| Sq (.bool true) rfl <| Sq (.bool true) rfl fun a c => X.n ?_;exact ⟨true, h, (c.pk rfl), e⟩
       ·refine Al c <| Sv e (pn E 4) rfl (V.eF rfl rfl cD rfl aa rfl rfl) <| Sv e (iv d.Quarters) rfl (V.eG 1 rfl rfl rfl ab aa rfl rfl) fun a c => Su c (xg d.Quarters 0 3 _) rfl rfl rfl rfl call62 (fun a w c ad => ?_);replace e := e.call ad; clear ad;refine Al c <| Sq (.bool (!(within d.Quarters 0 3))) rfl <| Sq (.bool (!(within d.Quarters 0 3))) rfl <| Sq (.bool (!(within d.Quarters 0 3))) rfl fun a c => X.n ?_;exact ⟨(!(within d.Quarters 0 3)), h, (c.pk rfl), e⟩
end Go.Proofs.YtbegofbmbcghdaaGreatDoor

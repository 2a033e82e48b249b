/- Chapter texts of ours, as far as the claim needs them. -/
import Derived.Test.YtdnilnmdbgcmoaaGreatDoorTextC
import Derived.Test.YtdnilnmdbgcmoaaGreatDoorBytes
namespace Go.Proofs.YtdnilnmdbgcmoaaGreatDoor
open Go Go.RowKit Go.Proofs Go.Shelf Go.Lib
set_option linter.unusedVariables false
set_option linter.unusedSectionVars false
set_option linter.unusedSimpArgs false
theorem Keeps.of_below' {w0 w w' : World} (h : Below w0.heap.size w w') (hd : exactDraws = true → w.drawn ≤ w'.drawn) : Keeps w (fun b => w0.heap.size ≤ b) w' :=
  ⟨h.os, h.tape, h.output, h.size, fun b _ hM => h.block b (Nat.lt_of_not_le hM), hd⟩
def itoaS (n : Int) : Str := Lib.itoa n
def isI64 (n : Int) : Prop := -9223372036854775808 ≤ n ∧ n ≤ 9223372036854775807
theorem C_strconv_Itoa (n : Int) (w0 : World) (hT : TabIn Tryz.prog w0 (old w0 none_)) (hp : isI64 n) : Ret Tryz.prog 55 #[.int .i64 n] w0 fun v w' => v = .string (ba (itoaS n)) ∧ Sat w0 none_ [] w' := by
  have key := Any.strconv_Itoa (P := Tryz.prog) Tryz.lays171 n hp.1 hp.2 w0 hT.tab
  refine Calls.mono key fun e w' ⟨he, k, os, hw⟩ => ⟨_, he, rfl, ⟨?_, trivial⟩⟩
  subst hw
  refine ⟨rfl, rfl, rfl, ?_, fun b hb _ => ?_, fun e => absurd e (by decide)⟩
  · show w0.heap.size ≤ (w0.heap ++ os).size
    rw [Array.size_append]; omega
  · show (w0.heap ++ os)[b]? = w0.heap[b]?
    rw [Array.getElem?_append_left hb]
theorem bldSize : (Tryz.prog.info? 101).map (·.size) = some 2 := by kernel_rfl
set_option maxHeartbeats 1000000 in
set_option maxRecDepth 100000 in
theorem copyCheck_used (b : Nat) (w : World) (h0 : w.cell? ⟨b, 0, none⟩ = some (.pointer (some ⟨b, 0, none⟩))) :
    Calls Tryz.prog 114 #[.pointer (some ⟨b, 0, none⟩)] w fun e w' => e = .returned (.tuple #[]) ∧ w' = w := by
  obtain ⟨j, hj, _⟩ := Option.map_eq_some_iff.1 bldSize
  have t101 := Tryz.underlying101; have a101 := Tryz.isAgg101; have z101 := Tryz.sizeOf101; have u101 := Tryz.runUnderlying101
  have t98 := Tryz.underlying98; have a98 := Tryz.isAgg98; have z98 := Tryz.sizeOf98; have u98 := Tryz.runUnderlying98
  have t4 := Tryz.underlying4; have a4 := Tryz.isAgg4; have z4 := Tryz.sizeOf4; have u4 := Tryz.runUnderlying4
  go_enter Tryz.func114, Tryz.ntmps114
  go_wp2
  rw [Lib.run_neq_ptr_same w _ Tryz.underlying98 hj]
  go_wp2
  go_end0
  exact ⟨rfl, rfl⟩
set_option maxHeartbeats 1000000 in
set_option maxRecDepth 100000 in
theorem copyCheck_fresh (b : Nat) (w : World) (h0 : w.cell? ⟨b, 0, none⟩ = some (.pointer none)) (hsh : w.shape? b = some (101, 2)) (hfz : w.frozen? ⟨b, 0, none⟩ = false) :
    Calls Tryz.prog 114 #[.pointer (some ⟨b, 0, none⟩)] w fun e w' => e = .returned (.tuple #[]) ∧ w' = w.setCell ⟨b, 0, none⟩ (.pointer (some ⟨b, 0, none⟩)) := by
  obtain ⟨j, hj, hjs⟩ := Option.map_eq_some_iff.1 bldSize
  have t101 := Tryz.underlying101; have a101 := Tryz.isAgg101; have z101 := Tryz.sizeOf101; have u101 := Tryz.runUnderlying101
  have t98 := Tryz.underlying98; have a98 := Tryz.isAgg98; have z98 := Tryz.sizeOf98; have u98 := Tryz.runUnderlying98
  have t4 := Tryz.underlying4; have a4 := Tryz.isAgg4; have z4 := Tryz.sizeOf4; have u4 := Tryz.runUnderlying4
  have t205 := Tryz.underlying205; have a205 := Tryz.isAgg205; have z205 := Tryz.sizeOf205; have u205 := Tryz.runUnderlying205
  go_enter Tryz.func114, Tryz.ntmps114
  go_wp2
  rw [Lib.run_to_unsafe w ⟨b, 0, none⟩ Tryz.underlying98 Tryz.underlying205 hj (by rw [hjs]; decide) hsh (Nat.zero_lt_succ 1)]
  simp only [Result.andThen]
  rw [Oper.upon_value]
  go_wp2
  rw [run_callFunc_extern Tryz.func168 (by kernel_rfl) (by kernel_rfl) (by kernel_rfl) (e := Extern.AbiNoEscape.same) (by kernel_rfl)]
  rw [Lib.run_noEscape]
  simp only [Result.andThen]
  rw [Oper.upon_value]
  go_wp2
  rw [Lib.run_from_unsafe w ⟨b, 0, none⟩ Tryz.underlying205 Tryz.underlying98 hj hsh (show liesAt Tryz.prog Tryz.prog.depth 101 (2 / Tryz.prog.cellsOf 101) 0 101 1 = true by kernel_rfl)]
  simp only [Result.andThen]
  rw [Oper.upon_value]
  go_wp2
  go_end0
  exact ⟨rfl, rfl⟩
def M_bld_copyCheck (b : StringsBuilder) (Q : StringsBuilder → Prop) : Prop := Q ⟨true, b.buf⟩
theorem R_bld_copyCheck (b : StringsBuilder) (w0 : World) (F0 : Nat → Prop) (bg : Nat) (b_bufA : Option Addr) (b_bufC : Nat) (hs0 : Sat w0 F0 [hbox bg 101 [.pointer (selfp b.addr bg), .slice b_bufA b.buf.length b_bufC], hown 5 b_bufA b_bufC b.buf] w0) (Q : StringsBuilder → Prop) (h : M_bld_copyCheck b Q) :
  Ret Tryz.prog 114 #[.pointer (some ⟨bg, 0, none⟩)] w0 fun v w' => ∃ (b1 : StringsBuilder) (b1_bufA : Option Addr) (b1_bufC : Nat), v = .tuple #[] ∧ Q b1 ∧ Sat w0 F0 [hbox bg 101 [.pointer (selfp b1.addr bg), .slice b1_bufA b1.buf.length b1_bufC], hown 5 b1_bufA b1_bufC b1.buf] w' := by
 obtain ⟨F, ⟨hg, hF⟩, hlt, hupd⟩ := hs0.upd 0 rfl
 cases hb : b.addr
 ·have hg' : w0.heap[bg]? = some (.cells #[.pointer none, .slice b_bufA b.buf.length b_bufC] 101 (0, 0)) := by rw [hg, hb]; rfl
  have key := copyCheck_fresh bg w0 (by simp [World.cell?, hg']) (by simp [World.shape?, hg']) (by simp [World.frozen?, hg'])
  refine Calls.mono key fun e w' ⟨he, hw⟩ => ⟨_, he, ⟨true, b.buf⟩, b_bufA, b_bufC, rfl, h, ?_⟩
  subst hw
  refine hupd _ (hbox bg 101 [.pointer (some ⟨bg, 0, none⟩), .slice b_bufA b.buf.length b_bufC]) F (Keeps.setCell _ _ _ ((hF bg).2 rfl)) ⟨?_, hF⟩ (fun c hc => ⟨.inl hc, by simpa [World.setCell] using hlt c hc⟩)
  have hlt' := (Array.getElem?_eq_some_iff.1 hg').1
  simp [World.setCell, Array.getElem?_modify, hg']
 ·have hg' : w0.heap[bg]? = some (.cells #[.pointer (some ⟨bg, 0, none⟩), .slice b_bufA b.buf.length b_bufC] 101 (0, 0)) := by rw [hg, hb]; rfl
  have key := copyCheck_used bg w0 (by simp [World.cell?, hg'])
  refine Calls.mono key fun e w' ⟨he, hw⟩ => ⟨_, he, ⟨true, b.buf⟩, b_bufA, b_bufC, rfl, h, ?_⟩
  subst hw
  rw [hb] at hs0
  exact hs0
theorem bldExtra : Builder.Extra Tryz.prog Tryz.lays169_ren :=
  { sizeBuilder := by kernel_rfl, liesBuilder := by kernel_rfl, t5 := Tryz.underlying5, a5 := Tryz.isAgg5, z5 := Tryz.sizeOf5, v5 := Tryz.zeroValue5, infoByte := by kernel_rfl, cellsByte := by kernel_rfl, sizeByte := by kernel_rfl, neB5 := by decide }
theorem bldString {w0 w : World} {σ : List HProp} (q qr : Nat) (hs : Sat w0 none_ σ w) {g : Nat} {f : Bool} {A : Option Addr} {C : Nat} {s : Str} (h1 : σ[q]? = some (hbox g 101 [.pointer (selfp f g), .slice A s.length C])) (h2 : σ[qr]? = some (hown 5 A C s)) :
    Ret Tryz.prog 57 #[.pointer (some ⟨g, 0, none⟩)] w fun v w' => v = .string (ba s) ∧ Sat w0 none_ [] w' := by
  obtain ⟨F1, ⟨hg, hF1⟩, hZ1, _⟩ := (hs.front q h1).sat
  obtain ⟨F2, ⟨hown', hF2⟩, hZ2, _⟩ := (hs.front qr h2).sat
  have hgB : w0.heap.size ≤ g := (hZ1 g ((hF1 g).2 rfl)).1.1.resolve_left (fun e => e)
  have ho : w.ownsRowF w0.heap.size 5 1 (.slice A s.length C) s.length (Lib.byteCells s) := by
    have e : s.flatMap Flat.enc = Lib.byteCells s := by rw [byte_cells]; unfold Lib.strCells Lib.byteCells; rw [ba_toList]
    rw [e] at hown'
    refine World.ownsRowF_of ⟨hown'.1, ?_⟩
    rcases hown'.2 with h | ⟨k, cap, cur, hv, _, r⟩
    · exact .inl h
    · refine .inr ⟨k, cap, cur, hv, ?_, r⟩
      exact (hZ2 k ((hF2 k).2 (by rw [hv]; rfl))).1.1.resolve_left (fun e => e)
  have hne : (Value.slice A s.length C).ownBlock ≠ some g := by
    intro hk
    rcases hown'.2 with ⟨h, _⟩ | ⟨k, cap, cur, hv, _, hh, _⟩
    · rw [h] at hk; cases hk
    · rw [hv] at hk
      injection hk with hk
      subst hk
      rw [hh] at hg
      injection hg with hg
      injection hg with _ hg _
      exact absurd hg (by decide)
  have hB : Lib.IsBuilderF 101 5 w0.heap.size g (Lib.byteCells s) w := by
    cases f
    · exact .inl ⟨hgB, _, hg, by rw [Lib.byteCells_length]; exact ho, hne⟩
    · exact .inr ⟨hgB, _, hg, by rw [Lib.byteCells_length]; exact ho, hne⟩
  have key := Any.Builder_String_any_f (P := Tryz.prog) Tryz.lays169 bldExtra w0.heap.size g s w hB hs.keeps.size
  exact Calls.mono key fun e w' ⟨he, _, hb⟩ => ⟨_, he, rfl, ⟨hs.keeps.trans (Keeps.of_below' hb (fun e => absurd e (by decide))) (fun b hb hM => absurd hM (Nat.not_le.2 hb)), trivial⟩⟩
set_option linter.unusedVariables false
def M_bld_WriteString (b : StringsBuilder) (s_ : Str) (Q : Int → Unit → StringsBuilder → Prop) : Prop :=
  M_bld_copyCheck b fun z1 => must (room (z1.buf ++ s_).length 1) (Q (s_.length : Int) () (⟨z1.addr, (z1.buf ++ s_)⟩ : StringsBuilder))
set_option maxHeartbeats 1000000 in
theorem R_bld_WriteString (b : StringsBuilder) (s_ : Str) (w0 : World) (F0 : Nat → Prop) (bg : Nat) (b_bufA : Option Addr) (b_bufC : Nat) (hs0 : Sat w0 F0 [hbox bg 101 [.pointer (selfp b.addr bg), .slice b_bufA b.buf.length b_bufC], hown 5 b_bufA b_bufC b.buf] w0) (Q : Int → Unit → StringsBuilder → Prop) (h : M_bld_WriteString b s_ Q) :
  Ret Tryz.prog 54 #[(pn bg 0), .string (ba s_)] w0 fun v w' => ∃ (r0 : Int) (r1 : Unit) (b1 : StringsBuilder) (b1_bufA : Option Addr) (b1_bufC : Nat), v = .tuple #[iv r0, .nilIface] ∧ Q r0 r1 b1 ∧ Sat w0 F0 [hbox bg 101 [.pointer (selfp b1.addr bg), .slice b1_bufA b1.buf.length b1_bufC], hown 5 b1_bufA b1_bufC b1.buf] w' := by
 refine fn_enter Tryz.func54 rfl Tryz.ntmps54 rfl (fs := [(0, (pn bg 0)), (1, .string (ba s_))]) rfl (fun a hf => ?_)
 have hs := hs0
 unfold M_bld_WriteString at h
 refine wp_seq (R.list ?_)
 refine S.p hf hs (iv 0) rfl rfl fun a hf => ?_
 refine S.p hf hs .nilIface rfl rfl fun a hf => ?_
 refine R.nil (X.then_ (wp_seq (R.list ?_)))
 refine S.p hf hs ((pn bg 0)) rfl rfl fun a hf => ?_
 replace hs := hs.front 1 rfl
 replace hs := hs.front 1 rfl
 obtain ⟨F1, hsF, hback, hold, hrest⟩ := Sat.callOwns [hbox bg 101 [.pointer (selfp b.addr bg), .slice b_bufA b.buf.length b_bufC], hown 5 b_bufA b_bufC b.buf] (σ := []) hs
 refine S.call hf rfl rfl rfl (call_fn (vs := [(pn bg 0)]) rfl rfl rfl Tryz.call114) (R_bld_copyCheck b _ _ bg b_bufA b_bufC hsF _ h) (fun v a w' hf hr => ?_)
 obtain ⟨z1, z1_bufA, z1_bufC, rfl, h2, hs2⟩ := hr
 replace h := h2; replace hs := hback _ _ hs2; clear h2 hs2 hback hold hrest hsF
 refine R.nil (X.then_ (wp_seq (R.list ?_)))
 refine S.p hf hs ((pn bg 0)) rfl rfl fun a hf => ?_
 refine S.p hf hs ((pn bg 0)) rfl rfl fun a hf => ?_
 refine S.p hf hs ((pn bg 0)) rfl rfl fun a hf => ?_
 refine S.v hf hs ((pn bg 1)) rfl (V.fieldBox rfl rfl Tryz.runUnderlying101 rfl Tryz.sizeOf99 rfl rfl) fun a hf => ?_
 refine S.v hf hs (.slice z1_bufA z1.buf.length z1_bufC) rfl (V.loadBox 0 rfl rfl rfl Tryz.isAgg99 Tryz.sizeOf99 rfl rfl) fun a hf => ?_
 refine S.p hf hs (.string (ba s_)) rfl rfl fun a hf => ?_
 obtain ⟨hroom, h⟩ := h
 refine S.appendStr 1 hf hs rfl rfl rfl rfl rfl rfl rfl Tryz.underlying99 Tryz.underlying9 (by kernel_rfl) hroom (fun A1 C1 a w hf hs => ?_)
 refine S.p hf hs ((pn bg 0)) rfl rfl fun a hf => ?_
 refine S.v hf hs ((pn bg 1)) rfl (V.fieldBox rfl rfl Tryz.runUnderlying101 rfl Tryz.sizeOf99 rfl rfl) fun a hf => ?_
 refine S.storeBox 0 hf hs rfl rfl [.slice A1 (z1.buf ++ s_).length C1] [.pointer (selfp z1.addr bg), .slice A1 (z1.buf ++ s_).length C1] rfl rfl rfl rfl rfl Tryz.sizeOf99 rfl rfl rfl rfl (fun a w hf hs => ?_)
 refine R.nil (X.then_ (wp_seq (R.list ?_)))
 refine S.p hf hs (.string (ba s_)) rfl rfl fun a hf => ?_
 refine S.v hf hs (iv (s_.length : Int)) rfl (V.lenStr rfl rfl Tryz.runUnderlying9) fun a hf => ?_
 refine S.p hf hs (iv (s_.length : Int)) rfl rfl fun a hf => ?_
 refine S.p hf hs .nilIface rfl rfl fun a hf => ?_
 refine R.nil (X.then_ (wp_ret ?_))
 replace hs := hs.front 1 rfl
 replace hs := hs.front 1 rfl
 replace hs := hs.take 2
 exact L.ret hf (run_results2 Tryz.results54 (ResIs.tmp hf rfl) (ResIs.tmp hf rfl)) ⟨(s_.length : Int), (), (⟨z1.addr, (z1.buf ++ s_)⟩ : StringsBuilder), A1, C1, rfl, h, hs⟩
set_option linter.unusedVariables false
def M_bld_Len (b : StringsBuilder) (Q : Int → Prop) : Prop :=
  Q (b.buf.length : Int)
set_option maxHeartbeats 1000000 in
theorem R_bld_Len (b : StringsBuilder) (w0 : World) (b_bufA : Option Addr) (b_bufC : Nat) (hv_b_buf : View w0 (old w0 none_) b_bufA b_bufC b.buf) (bg : Nat) (hb_b : ElemAt w0 (old w0 none_) (some ⟨bg, 0, none⟩) 0 [.pointer (selfp b.addr bg), .slice b_bufA b.buf.length b_bufC]) (Q : Int → Prop) (h : M_bld_Len b Q) :
  Ret Tryz.prog 56 #[(pn bg 0)] w0 fun v w' => ∃ (r0 : Int), v = iv r0 ∧ Q r0 ∧ Sat w0 none_ [] w' := by
 refine fn_enter Tryz.func56 rfl Tryz.ntmps56 rfl (fs := [(0, (pn bg 0))]) rfl (fun a hf => ?_)
 have hs := Sat.start w0 none_
 unfold M_bld_Len at h
 refine wp_seq (R.list ?_)
 refine S.p hf hs (iv 0) rfl rfl fun a hf => ?_
 refine R.nil (X.then_ (wp_seq (R.list ?_)))
 refine S.p hf hs ((pn bg 0)) rfl rfl fun a hf => ?_
 refine S.p hf hs ((pn bg 0)) rfl rfl fun a hf => ?_
 refine S.v hf hs ((pn bg 1)) rfl (V.fieldBox rfl rfl Tryz.runUnderlying101 rfl Tryz.sizeOf99 rfl rfl) fun a hf => ?_
 refine S.v hf hs (.slice b_bufA b.buf.length b_bufC) rfl (V.loadAt0 (off := 1) (Ag.args _ _ _) hb_b rfl rfl Tryz.isAgg99 Tryz.sizeOf99 rfl rfl) fun a hf => ?_
 refine S.v hf hs (iv (b.buf.length : Int)) rfl (V.len rfl rfl Tryz.runUnderlying99) fun a hf => ?_
 refine S.p hf hs (iv (b.buf.length : Int)) rfl rfl fun a hf => ?_
 refine R.nil (X.then_ (wp_ret ?_))
 exact L.ret hf (run_results1 Tryz.results56 (ResIs.tmp hf rfl)) ⟨(b.buf.length : Int), rfl, h, hs.nil⟩
end Go.Proofs.YtdnilnmdbgcmoaaGreatDoor

import Derived.Test.YthdnbnombelfpaaGreatDoorAx16
import Derived.Test.YthdnbnombelfpaaGreatDoorAx17
import Derived.Test.YthdnbnombelfpaaGreatDoorCards
import Derived.Test.YthdnbnombelfpaaGreatDoorTie
import Derived.WalkKit
import Derived.ProofKit
import Derived.OpenShut
import Derived.Deep.DeepHandedRow
import Derived.Lib.LaidTab
import Derived.LaidSub
import Derived.Carry
/- AX, part Rw: PressStrips: the row, the card. -/
set_option linter.unusedVariables false
set_option maxRecDepth 100000
namespace Go.Proofs.YthdnbnombelfpaaGreatDoor
open Go.ChangeShapes Go.WideShapes Go.ChangeAt Go.RowKit Go.Proofs.Ax

theorem own : ownKnob Tryz.prog.godebug = none := by kernel_rfl
theorem laidOut : laidOutB Tryz.prog = true := by kernel_rfl
theorem readable27 : Tryz.prog.readableRec 27 = true := by kernel_rfl
theorem row27 : 27 < Tryz.prog.types.size := of_decide_eq_true (by kernel_rfl)
theorem gTab : Tryz.prog.globalNamed "internal/strconv.uint64pow10" = some 3 := by kernel_rfl
theorem gTabType : ∃ t, (Tryz.prog.globals[3]?).map (·.type) = some t ∧ Tryz.prog.underlying t = some (.array 20 158) ∧ Tryz.prog.cellsOf t = 20 := by
  refine ⟨199, by kernel_rfl, by kernel_rfl, by kernel_rfl⟩
theorem under158 : Tryz.prog.underlying 158 = some (.int .u64) := by kernel_rfl
theorem cells158 : Tryz.prog.cellsOf 158 = 1 := by kernel_rfl

/-- What the row's list gives. -/
theorem table {W : World} (h : laidMetH Tryz.prog Rows.pressStripsUptoRow.laid W) : Lib.TabIs Tryz.prog W "internal/strconv.uint64pow10" .u64 Lib.pow10Tab := by
  obtain ⟨t, h1, h2, h3⟩ := gTabType
  have h' : laidMet Tryz.prog [("math/bits.deBruijn32tab", Rows.laid_math_bits_deBruijn32tab), ("math/bits.deBruijn64tab", Rows.laid_math_bits_deBruijn64tab), ("internal/strconv.uint64pow10", Rows.laid_internal_strconv_uint64pow10), ("unicode/utf8.acceptRanges", Rows.laid_unicode_utf8_acceptRanges), ("unicode/utf8.first", Rows.laid_unicode_utf8_first)] W := h
  have h4 := laidMet.filter (fun x => x.1 == "internal/strconv.uint64pow10") h'
  have e : (Rows.laid_internal_strconv_uint64pow10 : DataW Unit) = Lib.tabData .u64 Lib.pow10Tab := by rfl
  simp [e] at h4
  exact Lib.tabIs_of_head (rest := []) gTab h1 h2 under158 cells158 h3 h4
theorem grel {W : World} (h : Lib.TabIs Tryz.prog W "internal/strconv.uint64pow10" .u64 Lib.pow10Tab) : GRel (oldI W) W EA.G := by
  intro g x hx
  have hx' : (bif Nat.beq g 3 then some pow10V else none) = some x := hx
  cases hb : Nat.beq g 3
  · rw [hb] at hx'; cases hx'
  rw [hb] at hx'
  have hg := Nat.eq_of_beq_eq_true hb
  subst hg
  obtain rfl : pow10V = x := by simpa using hx'
  have hv := h
  unfold Lib.TabIs World.var? at hv
  rw [gTab] at hv
  simp only [Option.bind_some] at hv
  split at hv <;> (try (cases hv; done))
  rename_i cs e fz hheap
  have hlt : oldI W 3 := (Array.getElem?_eq_some_iff.1 hheap).1
  have hsz : cs.size = 20 := by
    have := Option.some.inj hv
    rw [this]
    simp [Lib.pow10Tab]
  have hcell : ∀ j, j < 20 → W.cell? ⟨3, j, none⟩ = some (.int .u64 (Int.ofNat (10 ^ j))) := fun j hj => by
    have := h.cell gTab j (by simp [Lib.pow10Tab]; exact hj)
    rw [this, Lib.pow10Tab_at j hj]
    rfl
  refine ⟨?_, fun cs' hc => ?_⟩
  · have := VR.lptr (I := oldI W) (w := W) (κ := kap0) (elems := [(List.range 20).map fun i => AV.int .u64 (Int.ofNat (10 ^ i))]) (k := 0) (off := 0) 3 0 20 (fun j => .int .u64 (Int.ofNat (10 ^ j))) hlt (by simp) (fun j hj => by
        simp at hj
        rw [Nat.zero_add]
        exact hcell j hj) (fun j hj => rfl) (fun j x hx => by
        simp only [List.flatten_cons, List.flatten_nil, List.append_nil] at hx
        rw [List.getElem?_map] at hx
        obtain ⟨i, hi, rfl⟩ := Option.map_eq_some_iff.1 hx
        have : i = j := by
          have hlt := (List.getElem?_eq_some_iff.1 hi).1
          rw [List.getElem?_range (by simpa using hlt)] at hi
          simpa using hi.symm
        subst this
        exact .int)
    exact this
  · refine ⟨hlt, cs, e, fz, hheap, ?_⟩
    unfold pow10V at hc
    simp only [AV.lptr.injEq, List.cons.injEq, and_true] at hc
    rw [hsz, ← hc]
    simp

theorem post_of_old {H : Type} {enc : TypeId × Value → H} {P : Program} {f : Func} {s : ChangeSpec} {apart fresh handsOn again : Bool} {W W' : World} {args : Array Value} {v : Value} {ds gs : List (DataW H)} {before pa pv : List MemPlace}
    (hW : DataW.Whole enc P f.params.toList s.vars apart W args.toList ds gs before)
    (hres : ∀ (b : Nat) (sp : Nat → Bool) (hd : Bool), DataW.TrodAll enc P W' b sp hd f.resultTypes.toList (v.resultList f.resultTypes.size) (s.fn H (ds ++ gs)).results [])
    (hargs : ∀ sp : Nat → Bool, (∀ p ∈ before, sp p.block = true) → DataW.TrodAll enc P W' 0 sp true f.params.toList args.toList (s.fn H (ds ++ gs)).args pa)
    (hvars : ∀ sp : Nat → Bool, (∀ p ∈ before, sp p.block = true) → DataW.TrodVars enc P W' sp s.vars (s.fn H (ds ++ gs)).vars pv)
    (hps : before = pa ++ pv) (hk : W.keptBut W' (· ∈ before)) (hfz : ∀ b off, MemPlace.cell b off ∈ before → W'.frozen? ⟨b, off, none⟩ = W.frozen? ⟨b, off, none⟩)
    (hok : ∀ (j : Nat) (t : TypeId) (r : Value), f.resultTypes[j]? = some t → (v.resultList f.resultTypes.size)[j]? = some r → Value.okWide P W' .any 0 t r) :
    s.post enc P f apart fresh handsOn again W args v W' := by
  have hold : ∀ p ∈ before, (fun b => decide (b < W.heap.size)) p.block = true := fun p hp => by simpa using hW.lt p hp
  refine ⟨ds, gs, before, [], pa, pv, hW, hres _ _ _, hargs _ hold, hvars _ hold, World.keptBut_mono (fun p hp => ⟨hp, ?_⟩) hk, fun _ => ?_⟩
  · rw [hps, List.mem_append] at hp
    exact Or.inr hp
  · obtain ⟨_, _, _, _, _, hz, hn⟩ := hW
    refine ⟨hok, _, _, ([] ++ pa) ++ pv, ⟨[] ++ pa, pv, trodAll_append (hargs _ (fun _ _ => rfl)) (hres _ _ _), hvars _ (fun _ _ => rfl), rfl, ?_, ?_⟩, ?_⟩
    · intro b off hp
      have hp' : MemPlace.cell b off ∈ before := by rw [hps]; simpa using hp
      rw [hfz b off hp']
      exact hz b off hp'
    · intro ha
      have := hn ha
      rw [hps] at this
      simpa using this
    · intro p hp _
      rw [hps]
      simpa using hp

/-- What the walk gives, for every argument. -/
theorem contract (H : Type) (enc : TypeId × Value → H) (W : World) (base : Nat) (args : Array Value) (ds gs : List (DataW H)) (before : List MemPlace)
    (hval : ∀ (j : Nat) t v, Tryz.f6.params[j]? = some t → args[j]? = some v → Value.okWide Tryz.prog W .any base t v)
    (hW : DataW.Whole enc Tryz.prog Tryz.f6.params.toList Rows.pressStripsSpec.vars false W args.toList ds gs before) (hk : Rows.uptoSmall H (ds ++ gs) = true) (hL : laidMetH Tryz.prog Rows.pressStripsUptoRow.laid W) :
    Calls Tryz.prog 6 args W fun e W' => ∃ v, e = .returned v ∧ Rows.pressStripsSpec.post enc Tryz.prog Tryz.f6 false true false false W args v W' := by
  have hW' := hW
  obtain ⟨p, q, hA0, hV, rfl, hfz, hnd⟩ := hW
  have hA : DataW.TrodAll enc Tryz.prog W 0 (fun _ => true) true Tryz.f6.params.toList args.toList ds p := hA0
  rw [Tryz.params6] at hA hval
  obtain ⟨v0, vs0, d0, ds0, p0, q0, hargs, rfl, rfl, h0, r0⟩ := trodAll_cons hA
  obtain ⟨rfl, rfl, rfl⟩ := trodAll_nil r0
  obtain rfl : args = #[v0] := by cases args; simp_all
  obtain ⟨rfl, rfl⟩ := trodVars_none hV
  simp only [List.append_nil] at hW' hk
  obtain ⟨n, hn⟩ := h0
  obtain ⟨x, hx, hxs⟩ := node_open n _ _ hn
  have hxs' : x.sz ≤ Rows.uptoBulk d0 := hxs
  have hbulk : Rows.uptoBulkAll [d0] ≤ 1048576 := of_decide_eq_true hk
  simp only [Rows.uptoBulkAll] at hbulk
  have hlen6 : v0.cells.toList.length = 6 := by rw [hx.1, nodeC_len]
  have hv0 : VR (oldI W) W kap0 (.agg (nodeC x)) v0 := by
    cases v0 with
    | agg cs =>
      have := VR.agg (I := oldI W) (w := W) (κ := kap0) (cs := nodeC x) (us := cs.toList) (by simpa [Value.cells] using hx.1) (fun i y hy => by simpa [Value.cells] using hx.2.2 i y hy)
      simpa using this
    | _ => simp [Value.cells] at hlen6
  have hc := strips6_ok x (Nat.le_trans hxs' (by omega)) kap0 (oldI W) [v0] W (grel (table hL)) (old_hrel W) ⟨rfl, fun i y hy => by
    cases i with
    | zero => cases hy; exact hv0
    | succ i => simp at hy⟩
  refine hc.mono ?_
  rintro e W' ⟨y, H', κ', I', h1, h2, h3, rfl, rfl⟩
  cases e <;> simp only [EndRel] at h1
  rename_i u
  obtain rfl : u = .bool true := by cases h1; rfl
  have hb : Below W.heap.size W W' := ⟨h3.os, h3.tape, h3.output, h3.size, fun k hk => h3.kept k hk fun ⟨id, B, c, g1, _⟩ => by simp at g1⟩
  have hlt : ∀ z ∈ p0 ++ [], z.block < W.heap.size := fun z hz => hW'.lt z (by simpa using hz)
  refine ⟨_, rfl, post_of_old (pa := p0 ++ []) (pv := []) hW' (fun _ _ _ => trodAll_cons_mk (shut_bool Tryz.underlying4 _) trodAll_mk0) (fun sp hsp => ?_) (fun _ _ => rfl) (by simp) (hb.frame _) (fun b off hp => ?_) (ok_one (by kernel_rfl) rfl (okWide_bool_mk Tryz.underlying4 _))⟩
  · rw [Tryz.params6]
    refine trodAll_cons_mk ?_ trodAll_mk0
    have := WideElems.Trod_stays (sp' := sp) laidOut readable27 row27 ⟨n, hn⟩ (fun z hz => hb.same (hlt z (by simpa using hz))) (fun z hz => hsp z (by simpa using hz))
    exact this
  · have := hlt _ (by simpa using hp)
    unfold World.frozen?
    rw [hb.block b this]
end Go.Proofs.YthdnbnombelfpaaGreatDoor
/- AX, part Cd: PressStrips: the card. -/
set_option linter.unusedVariables false
set_option maxRecDepth 100000
namespace Go.Proofs.YthdnbnombelfpaaGreatDoor
open Go.ChangeShapes Go.WideShapes Go.ChangeAt Go.RowKit Go.Proofs.Ax

/-- The cells of a table's datum. -/
def flatD : Nat → DataW Unit → List Value
  | 0, _ => []
  | n + 1, .lit (.int k z) => [.int k z]
  | n + 1, .agg parts => parts.flatMap (flatD n)
  | _ + 1, _ => []
def layAt (g : Nat) (d : DataW Unit) (h : Array Obj) : Array Obj := h.modify g fun
  | .cells _ t frozen => .cells (flatD 5 d).toArray t frozen
  | o => o
def node0 : Value := .agg #[.int .i64 0, .string .empty, .string .empty, .slice none 0 0, .slice none 0 0, .string .empty]
/-- A world for the witness: the settled one, the tables as their texts lay them. -/
noncomputable def laidWorld (os : Os) : World :=
  { World.holding Tryz.prog os ⟨#[], #[], []⟩ with heap := layAt 0 Rows.laid_unicode_utf8_first (layAt 1 Rows.laid_unicode_utf8_acceptRanges (layAt 3 Rows.laid_internal_strconv_uint64pow10 (layAt 4 Rows.laid_math_bits_deBruijn32tab (layAt 5 Rows.laid_math_bits_deBruijn64tab (World.holding Tryz.prog os ⟨#[], #[], []⟩).heap)))) }
theorem laid_met (os : Os) : laidMet Tryz.prog Rows.pressStripsUptoRow.laid ((laidWorld os).forCall (fun _ _ => 0) ⟨#[], #[node0], []⟩).memory :=
  laidMet_of_run' 8 (by kernel_rfl) (by kernel_rfl)
theorem reads (os : Os) {H : Type} (enc : TypeId × Value → H) : ∃ places, DataW.whole enc Tryz.prog ((laidWorld os).forCall (fun _ _ => 0) ⟨#[], #[node0], []⟩).memory Tryz.f6.params.toList Rows.pressStripsSpec.vars false #[node0].toList 8 = some ([.agg [.lit (.int .i64 0), .lit (.string []), .lit (.string []), .nil, .nil, .lit (.string [])]], [], places) :=
  ⟨[], by kernel_rfl⟩
theorem liftedUpto (os : Os) (started : os.Started) (H : Type) (enc : TypeId × Value → H) (F : Stop.Interp) :
    ReturnsInHanded {} Tryz.checked os 6 .any ((Rows.OpenSpec.upto Rows.pressStripsSpec).preRow enc Tryz.prog Tryz.f6 Rows.pressStripsUptoRow.domain false Rows.pressStripsUptoRow.laid) (((Rows.OpenSpec.upto Rows.pressStripsSpec).at F).post enc Tryz.prog Tryz.f6 false true false false) := by
  obtain ⟨places, hx⟩ := reads os enc
  refine returnsInHanded_of_row (C := Tryz.checked) (s := Rows.OpenSpec.upto Rows.pressStripsSpec) own started (by kernel_rfl) Tryz.func6
    (witness_row_at (enc := enc) (C := Tryz.checked) false (laidWorld os) #[node0] rfl (by kernel_rfl) (by kernel_rfl) (by kernel_rfl)
      (OpenSpec.preRow_of_cond 8 hx (by kernel_rfl) (fun k hk => by cases hk; kernel_rfl) (by kernel_rfl) (laid_met os))) ?_
  intro W base args ds gs before hval hW _ hk _ hL _ _
  exact contract H enc W base args ds gs before hval hW (hk _ rfl) hL
theorem saidUpto : Rows.PressStripsUptoSaid :=
  OpenClaim.holds_of_cond 6 Tryz.f6 rfl rfl rfl rfl rfl rfl rfl ⟨rfl, rfl, rfl, rfl, rfl⟩ rfl rfl rfl rfl rfl (by kernel_rfl) Tryz.func6 (by kernel_rfl)
    (of_decide_eq_true (by kernel_rfl)) (by unfold Func.isWrapper; first | (rw [if_pos (by decide +kernel)]; kernel_rfl) | (rw [if_neg (by decide +kernel)]; exact ⟨rfl, rfl⟩))
    (fun os started H enc _ F => by rw [OpenClaim.pre_eq_preRow]; exact liftedUpto os started H enc F)
theorem plain (f : FuncId) (fn : Func) (hf : Tryz.pinned.checked.prog.funcNamed "broadsheet/broadsheetlaw16.PressStrips" = some f) (hfn : Tryz.pinned.checked.prog.funcs[f]? = some fn) :
    false = Tryz.pinned.checked.prog.looks [] ∧ ∀ (j : Nat) t, fn.params[j]? = some t → Tryz.pinned.checked.prog.wantsStandIn t = false := by
  obtain rfl : f = 6 := Option.some.inj ((show Tryz.prog.funcNamed "broadsheet/broadsheetlaw16.PressStrips" = some 6 by kernel_rfl).symm.trans hf) |>.symm
  obtain rfl : fn = Tryz.f6 := (Option.some.inj (Tryz.func6.symm.trans hfn)).symm
  refine ⟨by kernel_rfl, fun j t ht => ?_⟩
  rw [Tryz.params6] at ht
  obtain rfl : t = 27 := by simpa using Array.mem_of_getElem? ht
  exact (show Tryz.prog.wantsStandIn 27 = false by kernel_rfl)
/-- The card. -/
theorem cardUpto : Rows.PressStripsUptoCardSaid :=
  Claim7.holds_tied_plain_at .later [] _ _ _ _ saidUpto (fun _ h => by cases h) (by kernel_rfl) (fun _ h => by cases h) pressStripsUpto_row_tie rfl ⟨rfl, rfl⟩ (by kernel_rfl) rfl plain (by kernel_rfl)
#print axioms cardUpto
end Go.Proofs.YthdnbnombelfpaaGreatDoor

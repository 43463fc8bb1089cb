import Derived.Test.YthdnbnombelfpaaGreatDoorAx2
import Derived.Laws.StructEq
/- AX, part K: building, slicing, lengths, arithmetic, comparisons, conversions. -/
set_option linter.unusedVariables false
set_option linter.unusedSimpArgs false
namespace Go.Proofs.Ax
open Go.RowKit

section
variable {P : Program} {G : Glob} {o : Oper} {fr : Fr} {H : AH}

/-! ### Building -/
/-- Parts in their places: of each its place and size. -/
def fillA (place : Nat → Option (Nat × Nat)) (cells : List AV) : List (Nat × AV) → Option (List AV)
  | [] => some cells
  | (i, x) :: rest =>
    match place i with
    | none => none
    | some (off, size) => if x.cells = true ∧ (cellsOf x).length = size ∧ off + size ≤ cells.length then fillA place (splice cells off (cellsOf x)) rest else none

theorem fold_set (us : Array Value) : ∀ (vs : List Value) (off k : Nat) (j : Nat), off + k + vs.length ≤ us.size →
    ((vs.zipIdx k).foldl (fun cs (c, j) => cs.setIfInBounds (off + j) c) us).size = us.size ∧
    ((vs.zipIdx k).foldl (fun cs (c, j) => cs.setIfInBounds (off + j) c) us)[j]? = if off + k ≤ j ∧ j < off + k + vs.length then vs[j - (off + k)]? else us[j]? := by
  intro vs
  induction vs generalizing us with
  | nil => intro off k j h; simp; omega
  | cons v vs ih =>
    intro off k j h
    simp only [List.length_cons] at h
    simp only [List.zipIdx_cons, List.foldl_cons]
    obtain ⟨h1, h2⟩ := ih (us.setIfInBounds (off + k) v) off (k + 1) j (by simp; omega)
    refine ⟨by rw [h1]; simp, ?_⟩
    rw [h2]
    by_cases e : j = off + k
    · subst e
      rw [if_neg (by omega), if_pos (by simp)]
      simp [show off + k < us.size by omega]
    · by_cases hc : off + (k + 1) ≤ j ∧ j < off + (k + 1) + vs.length
      · rw [if_pos hc, if_pos (by simp only [List.length_cons]; omega)]
        have : j - (off + k) = (j - (off + (k + 1))) + 1 := by omega
        rw [this, List.getElem?_cons_succ]
      · rw [if_neg hc, if_neg (by simp only [List.length_cons]; omega), Array.getElem?_setIfInBounds_ne (by omega)]

theorem fill_vr {κ : Kap} {I : Nat → Prop} {w : World} {a : Act} (hg : GRel I w G) (hf : FRel I w κ fr a) (place : Nat → Option (Nat × Nat)) : ∀ (parts : List (Nat × Operand)) (cells r : List AV) (us : Array Value),
    us.size = cells.length → (∀ j x, cells[j]? = some x → VR I w κ x (us.getD j undef)) → (∀ (j : Nat) u, us[j]? = some u → u.oneCell' = true) → fillA place cells (parts.map fun p => (p.1, aeval G fr p.2)) = some r →
    ∃ us', Instr.fill place us (parts.map fun p => (p.1, a.eval p.2)) = some us' ∧ us'.size = r.length ∧ r.length = cells.length ∧ (∀ j x, r[j]? = some x → VR I w κ x (us'.getD j undef)) ∧ (∀ (j : Nat) u, us'[j]? = some u → u.oneCell' = true) := by
  intro parts
  induction parts with
  | nil => intro cells r us h1 h2 h3 hr; simp [fillA] at hr; subst hr; exact ⟨us, rfl, h1, rfl, h2, h3⟩
  | cons p parts ih =>
    obtain ⟨i, x⟩ := p
    intro cells r us h1 h2 h3 hr
    simp only [List.map_cons, fillA] at hr
    cases hp : place i with
    | none => rw [hp] at hr; cases hr
    | some y =>
      obtain ⟨off, size⟩ := y
      rw [hp] at hr
      simp only at hr
      split at hr
      · rename_i hc
        obtain ⟨c1, c2, c3⟩ := hc
        obtain ⟨q1, q2, q3⟩ := vr_cells (aeval_vr hg hf x) c1
        have hvl : (a.eval x).cells.size = size := by rw [← Array.length_toList, q1, c2]
        have hfold := fold_set us (a.eval x).cells.toList off 0
        have hvl' : (a.eval x).cells.toList.length = size := by rw [q1, c2]
        have hz : (a.eval x).cells.zipIdx.foldl (fun cs (c, j) => cs.setIfInBounds (off + j) c) us = ((a.eval x).cells.toList.zipIdx 0).foldl (fun cs (c, j) => cs.setIfInBounds (off + j) c) us := by
          rw [← Array.foldl_toList, Array.toList_zipIdx]
        have hlen : (splice cells off (cellsOf (aeval G fr x))).length = cells.length := by simp [splice]; omega
        obtain ⟨us', m1, m2, m3, m4, m5⟩ := ih (splice cells off (cellsOf (aeval G fr x))) r ((a.eval x).cells.zipIdx.foldl (fun cs (c, j) => cs.setIfInBounds (off + j) c) us)
          (by rw [hz, (hfold 0 (by rw [hvl']; omega)).1, h1, hlen])
          (fun j y hy => by
            have h5 := (hfold j (by rw [hvl']; omega)).2
            simp only [Nat.add_zero, hvl'] at h5
            rw [hz, Array.getD_eq_getD_getElem?, h5]
            have h6 := splice_get cells (cellsOf (aeval G fr x)) off j (by omega)
            rw [splice, h6, c2] at hy
            split at hy
            · rename_i hcc
              rw [if_pos hcc, ← List.getD_eq_getElem?_getD]
              exact q3 _ y hy
            · rename_i hcc
              rw [if_neg hcc, ← Array.getD_eq_getD_getElem?]
              exact h2 _ y hy)
          (fun j u hu => by
            have h5 := (hfold j (by rw [hvl']; omega)).2
            simp only [Nat.add_zero, hvl'] at h5
            rw [hz, h5] at hu
            split at hu
            · exact q2 u (List.mem_of_getElem? hu)
            · exact h3 j u hu) hr
        refine ⟨us', ?_, m2, by rw [m3, hlen], m4, m5⟩
        simp only [List.map_cons, Instr.fill, hp]
        rw [if_neg]
        · exact m1
        · rw [hvl]
          simp
          omega
      · cases hr

theorem zero_vr {κ : Kap} {I : Nat → Prop} {w : World} (zs : List ZV) : ∀ j x, (zs.map ZV.av)[j]? = some x → VR I w κ x ((zs.map ZV.val).getD j undef) := by
  intro j x hx
  rw [List.getElem?_map] at hx
  obtain ⟨y, hy, rfl⟩ := Option.map_eq_some_iff.1 hx
  simp only [List.getD, List.getElem?_map, hy, Option.map_some, Option.getD_some]
  exact y.vr

theorem mapM_places {fields : List Field} {fs : List (Nat × Nat × Nat)} (h : fieldsOk P fields fs = true) (w : World) : (fields.mapM fun f => (do pure (f.offset, ← sizeOf f.type) : Sem (Nat × Nat))).run P w = .ok (fs.map fun x => (x.1, x.2.2)) w := by
  induction fields generalizing fs with
  | nil => cases fs <;> first | rfl | cases h
  | cons f fields ih =>
    cases fs with
    | nil => cases h
    | cons x fs =>
      simp only [fieldsOk, Bool.and_eq_true] at h
      obtain ⟨h1, h2⟩ := h
      simp only [fieldOk, Bool.and_eq_true, beq_iff_eq, bne_iff_ne, ne_eq] at h1
      obtain ⟨⟨⟨⟨a1, a2⟩, a3⟩, a4⟩, a5⟩ := h1
      have hs : (sizeOf f.type).run P w = .ok x.2.2 w := by
        split at a3
        · rename_i i hi; simp [sizeOf, typeInfo, hi]; simpa using a3
        · cases a3
      simp only [List.mapM_cons, Sem.run_bind, hs, Sem.run_pure, Result.andThen_ok, ih h2, a1, List.map_cons]

theorem op_build {t : Nat} {parts : Array (Nat × Operand)} (ho : o.op = .build t parts) {i : TI} (hi : TyIs P t i) {fs : List (Nat × Nat × Nat)} (hd : i.d = .struct fs) {r : List AV}
    (hr : fillA (fun n => (fs[n]?).map fun x => (x.1, x.2.2)) (i.zero.map ZV.av) (parts.toList.map fun p => (p.1, aeval G fr p.2)) = some r) : OpOk P G o fr H (.agg r) H :=
  .here fun κ I a w hg hrr hf => by
    obtain ⟨j, h1, h2, h3, z, h4, h5, h6, h7, h8⟩ := hi.info
    obtain ⟨fields, q1, q2⟩ := hi.struct hd
    have e : z.cells = ⟨i.zero.map ZV.val⟩ := by rw [← h5]
    obtain ⟨us', m1, m2, m3, m4, m5⟩ := fill_vr hg hf (fun n => (fs[n]?).map fun x => (x.1, x.2.2)) parts.toList (i.zero.map ZV.av) r ⟨i.zero.map ZV.val⟩ (by simp) (fun j x hx => by
        have := zero_vr (κ := κ) (I := I) (w := w) i.zero j x hx
        simpa [Array.getD_eq_getD_getElem?, List.getD] using this) (fun j u hu => by
        simp at hu
        obtain ⟨y, _, rfl⟩ := hu
        exact y.one) hr
    have hm : (fields.mapM fun f => (do pure (f.offset, ← sizeOf f.type) : Sem (Nat × Nat))).run P w = .ok (fs.map fun x => (x.1, x.2.2)).toArray w := by
      rw [Array.mapM_eq_mapM_toList, Sem.run_map, mapM_places q2]
      rfl
    have hpl : (fun n : Nat => (fs.map fun x : Nat × Nat × Nat => (x.1, x.2.2)).toArray[n]?) = fun n => (fs[n]?).map fun x => (x.1, x.2.2) := by
      funext n; simp
    refine ⟨.agg us', ?_, .agg (us := us'.toList) (by simpa using m2) (fun j x hx => by have := m4 j x hx; simpa [Array.getD_eq_getD_getElem?, List.getD] using this)⟩
    have hmap : (parts.map fun p => (p.1, a.eval p.2)).toList = parts.toList.map fun p => (p.1, a.eval p.2) := by simp
    simp only [execOp, ho, Instr.build, zeroValue, typeInfo, Sem.run_bind, run_program, Result.andThen_ok, h1, h4, Sem.run_pure, run_underlying q1, hm, e, hpl, hmap, m1]

theorem op_buildSlice {t n : Nat} {parts : Array (Nat × Operand)} (ho : o.op = .buildSlice t n parts) {i j : TI} (hi : TyIs P t i) {e : Nat} (hd : i.d = .slice e) (hj : TyIs P e j) {r : List AV} (hsz : n * j.size ≤ 16777216) (hn : n ≤ maxLen)
    (hr : fillA (fun k => some (k * j.size, j.size)) ((List.replicate n (j.zero.map ZV.av)).flatten) (parts.toList.map fun p => (p.1, aeval G fr p.2)) = some r) {elems : List (List AV)} (he : elems.flatten = r) (hel : elems.length = n) (hes : ∀ x ∈ elems, x.length = j.size) :
    OpOk P G o fr H (.slice H.length n) (H ++ [.row e j.size elems]) := by
  intro κ I a w hg hrr hf
  obtain ⟨jj, h1, h2, h3, z, h4, h5, h6, h7, h8⟩ := hj.info
  have ez : z.cells = ⟨j.zero.map ZV.val⟩ := by rw [← h5]
  have hzl := hj.zlen
  -- the zeros that the model lays
  have hzeros : ∀ (m : Nat) (q : Nat), m ≤ n * j.size → j.size ≠ 0 → ((j.zero.map ZV.val).toArray)[q % j.size]! = (j.zero.map ZV.val).getD (q % j.size) undef := by
    intro m q _ h0
    have : q % j.size < j.size := Nat.mod_lt _ (by omega)
    have hlt : q % j.size < (j.zero.map ZV.val).toArray.size := by simp; omega
    rw [getElem!_pos (j.zero.map ZV.val).toArray (q % j.size) hlt]
    simp [List.getD, show q % j.size < j.zero.length by omega]
  let zs : Array Value := (Array.range (n * j.size)).map fun q => (j.zero.map ZV.val).getD (q % j.size) undef
  have hzs : zs.size = ((List.replicate n (j.zero.map ZV.av)).flatten).length := by simp [zs, hzl]
  have hflat : ∀ (q : Nat) x, ((List.replicate n (j.zero.map ZV.av)).flatten)[q]? = some x → q < n * j.size ∧ j.size ≠ 0 ∧ (j.zero.map ZV.av)[q % j.size]? = some x := by
    intro q x hx
    have hlt := (List.getElem?_eq_some_iff.1 hx).1
    have hlen : ((List.replicate n (j.zero.map ZV.av)).flatten).length = n * j.size := by simp [hzl]
    rw [hlen] at hlt
    have h0 : j.size ≠ 0 := fun hh => by rw [hh] at hlt; omega
    refine ⟨hlt, h0, ?_⟩
    have hq : q = (q / j.size) * j.size + q % j.size := by rw [Nat.mul_comm]; exact (Nat.div_add_mod q j.size).symm
    have hk : q / j.size < n := Nat.div_lt_of_lt_mul (by rw [Nat.mul_comm]; exact hlt)
    have hall : ∀ y ∈ List.replicate n (j.zero.map ZV.av), y.length = j.size := by
      intro y hy
      rw [(List.mem_replicate.1 hy).2]
      simp [hzl]
    rw [hq, flat_get hall (by simpa using hk) (Nat.mod_lt _ (by omega))] at hx
    simp only [List.getD, List.getElem?_replicate, hk, if_true, Option.getD_some] at hx
    exact hx
  obtain ⟨us', m1, m2, m3, m4, m5⟩ := fill_vr hg hf (fun k => some (k * j.size, j.size)) parts.toList _ r zs hzs (fun q x hx => by
      obtain ⟨p1, p2, p3⟩ := hflat q x hx
      have := zero_vr (κ := κ) (I := I) (w := w) j.zero _ x p3
      rw [Array.getD_eq_getD_getElem?]
      simp only [zs, Array.getElem?_map, Array.getElem?_range, p1, if_true, Option.map_some, Option.getD_some]
      exact this) (fun q u hu => by
      simp only [zs, Array.getElem?_map, Array.getElem?_range] at hu
      split at hu
      · rename_i hq
        simp at hu
        subst hu
        have h0 : j.size ≠ 0 := fun hh => by rw [hh] at hq; omega
        have hlt : q % j.size < j.zero.length := by rw [hzl]; exact Nat.mod_lt _ (by omega)
        simp only [List.getElem?_map, List.getElem?_eq_getElem hlt, Option.map_some, Option.getD_some]
        exact ZV.one _
      · cases hu) hr
  have hrl : r.length = n * j.size := by rw [m3]; simp [hzl]
  have hk : ∀ b, b < w.heap.size → (w.alloc (.cells us' e)).heap[b]? = w.heap[b]? := fun b hb => heap_alloc_old w _ b hb
  have hx : Ext κ (upd κ H.length ⟨.slice (some ⟨w.heap.size, 0, none⟩) n n, n, j.size⟩) := Ext.upd_new _ hrr.new_none
  obtain ⟨k1, k2⟩ := hrr.push (w' := w.alloc (.cells us' e)) (B := .row e j.size elems) (c := ⟨.slice (some ⟨w.heap.size, 0, none⟩) n n, n, j.size⟩) rfl rfl rfl (by simp) hk (by intro b hb; simp [hblk] at hb; omega)
    ⟨_, us'.toList, upd_same _ _ _, hel.symm, rfl, ⟨by rw [Array.length_toList, m2, hrl, hel], .inr ⟨w.heap.size, n, us', by rw [hel], Nat.zero_le _, heap_alloc_new w _, by omega, hn, by rw [m2, hrl], by rw [hel, List.take_of_length_le (by simp; omega)]⟩⟩,
      hes, fun u hu => by
        obtain ⟨q, hq, rfl⟩ := List.mem_iff_getElem.1 hu
        exact m5 q _ (by simp at hq; simp [hq]), fun q x hq => by
        rw [he] at hq
        have := (m4 q x hq).mono (fun _ x => x) (fun b hb => hk b (hrr.sep b hb).1) hx
        simpa [Array.getD_eq_getD_getElem?, List.getD] using this⟩
  refine ⟨.slice (some ⟨w.heap.size, 0, none⟩) n n, _, I, w.alloc (.cells us' e), .inl ?_, .slice _ (upd_same _ _ _) (Nat.le_refl _) ⟨_, _, rfl⟩ (fun _ => rfl), k1, k2⟩
  have hmap : (parts.map fun p => (p.1, a.eval p.2)).toList = parts.toList.map fun p => (p.1, a.eval p.2) := by simp
  have hbig : ¬ (n * j.size > 2 ^ 24) := by omega
  have hzz : ∀ z' : Array Value, (n * j.size = 0 → z' = #[]) → (n * j.size ≠ 0 → z' = ⟨j.zero.map ZV.val⟩) → (Array.range (n * j.size)).map (fun x => z'[x % z'.size]!) = zs := by
    intro z' g1 g2
    by_cases h0 : n * j.size = 0
    · simp [zs, h0]
    · have hs0 : j.size ≠ 0 := fun hh => h0 (by rw [hh]; rfl)
      rw [g2 h0]
      apply Array.ext_getElem?
      intro q
      simp only [zs, Array.getElem?_map]
      cases (Array.range (n * j.size))[q]? with
      | none => rfl
      | some y =>
        simp only [Option.map_some, Option.some.injEq]
        have : (⟨j.zero.map ZV.val⟩ : Array Value).size = j.size := by simp [hzl]
        rw [this]
        exact hzeros 0 y (Nat.zero_le _) hs0
  by_cases h0 : n * j.size = 0
  · have := hzz #[] (fun _ => rfl) (fun h => absurd h0 h)
    simp only [execOp, ho, Instr.buildSlice, Sem.run_bind, run_underlying (hi.slice hd), Result.andThen_ok, hj.run_size, Sem.run_ite, if_neg hbig, if_pos h0, Sem.run_pure, this, hmap, m1]
    simp [newRow]
  · have := hzz ⟨j.zero.map ZV.val⟩ (fun h => absurd h h0) (fun _ => rfl)
    simp only [execOp, ho, Instr.buildSlice, Sem.run_bind, run_underlying (hi.slice hd), Result.andThen_ok, hj.run_size, Sem.run_ite, if_neg hbig, if_neg h0, Sem.run_pure, zeroValue, typeInfo, run_program, h1, h4, ez, this, hmap, m1]
    simp [newRow]
end
end Go.Proofs.Ax
/- AX, part L: slicing, lengths, arithmetic, comparisons, conversions, append. -/
set_option linter.unusedVariables false
set_option linter.unusedSimpArgs false
namespace Go.Proofs.Ax
open Go.RowKit

section
variable {P : Program} {G : Glob} {o : Oper} {fr : Fr} {H : AH}

/-! ### Slicing and lengths -/
def optI (G : Glob) (fr : Fr) (x : Option Operand) (d : Int) : Option Int :=
  match x with
  | none => some d
  | some y => match aeval G fr y with | .int _ n => some n | _ => none

theorem optI_run {κ : Kap} {I : Nat → Prop} {w : World} {a : Act} (hg : GRel I w G) (hf : FRel I w κ fr a) {x : Option Operand} {d n : Int} (h : optI G fr x d = some n) : (x = none ∧ n = d) ∨ ∃ y k, x = some y ∧ a.eval y = .int k n := by
  cases x with
  | none => simp [optI] at h; exact .inl ⟨rfl, h.symm⟩
  | some y =>
    simp only [optI] at h
    split at h
    · rename_i k m hy
      cases h
      have hv := aeval_vr hg hf y
      rw [hy] at hv
      generalize ha : a.eval y = v at hv
      cases hv
      exact .inr ⟨y, k, rfl, ha⟩
    · cases h

theorem run_bounds {κ : Kap} {I : Nat → Prop} {w : World} {a : Act} (hg : GRel I w G) (hf : FRel I w κ fr a) {lo hi : Option Operand} {l h : Int} {isS : Bool} {len cap : Nat} (hl : optI G fr lo 0 = some l) (hh : optI G fr hi len = some h) (h0 : 0 ≤ l) (h1 : l ≤ h) (h2 : h ≤ cap) :
    (Instr.sliceBounds isS len cap (lo.map a.eval) (hi.map a.eval) none).run P w = .ok (l.toNat, h.toNat, cap) w := by
  rcases optI_run hg hf hl with ⟨rfl, rfl⟩ | ⟨y, k, rfl, e1⟩ <;> rcases optI_run hg hf hh with ⟨rfl, rfl⟩ | ⟨y', k', rfl, e2⟩
  · simp [Instr.sliceBounds]
  · simp [Instr.sliceBounds, e2, Instr.sliceBound, asIntOf, show 0 ≤ h by omega, h2]
  · simp [Instr.sliceBounds, e1, Instr.sliceBound, asIntOf, h0, h1]
  · have : (h.toNat : Int) = h := Int.toNat_of_nonneg (by omega)
    simp [Instr.sliceBounds, e1, e2, Instr.sliceBound, asIntOf, h0, show 0 ≤ h by omega, h2, this, h1]

theorem extract_ofL (s : List UInt8) (l h : Nat) : (ofL s).extract l h = ofL ((s.take h).drop l) := by
  have : ((ofL s).extract l h).data = (ofL ((s.take h).drop l)).data := by
    apply Array.ext'
    simp [ByteArray.data_extract, ofL, List.drop_take]
  cases hx : (ofL s).extract l h with
  | mk d => rw [hx] at this; simp only at this; rw [this]

theorem op_slice_str {t : Nat} {x : Operand} {lo hi : Option Operand} (ho : o.op = .slice t x lo hi none) {i : TI} (hi' : TyIs P t i) (hd : i.d = .str) {s : List UInt8} (hx : aeval G fr x = .str s) {l h : Int} (hl : optI G fr lo 0 = some l) (hh : optI G fr hi s.length = some h)
    (h0 : 0 ≤ l) (h1 : l ≤ h) (h2 : h ≤ s.length) : OpOk P G o fr H (.str ((s.take h.toNat).drop l.toNat)) H :=
  .here fun κ I a w hg hr hf => by
    have hv := aeval_vr hg hf x
    rw [hx] at hv
    generalize ha : a.eval x = v at hv
    cases hv with
    | str hlen =>
      have hb := run_bounds (P := P) (w := w) hg hf (isS := false) (len := (ofL s).size) (cap := (ofL s).size) hl (by rw [ofL_size]; exact hh) h0 h1 (by rw [ofL_size]; exact h2)
      have hst := hi'.str hd
      refine ⟨_, ?_, .str (s := (s.take h.toNat).drop l.toNat) (by simp; omega)⟩
      simp [execOp, ho, ha, Instr.sliceAt, Instr.slice, run_underlying hst, hb, extract_ofL]

theorem lit_sub {κ : Kap} {I : Nat → Prop} {w : World} {elems : List (List AV)} {v : Value} (hv : VR I w κ (.lit elems) v) {l h sz : Nat} (h1 : l ≤ h) (h2 : h ≤ elems.length) (hs : ∀ e ∈ elems, e.length = sz) :
    ∃ ad cp, v = .slice ad elems.length cp ∧ elems.length ≤ cp ∧ VR I w κ (.lit ((elems.take h).drop l)) (sliced ad l h cp sz) := by
  cases hv with
  | @lit _ _ ad cp sz' us hcp hm hsz hc hone hvr =>
    refine ⟨ad, cp, rfl, hcp, ?_⟩
    have hlen : ((elems.take h).drop l).length = h - l := by simp; omega
    unfold sliced
    have key : ∀ (ad' : Option Addr), (l < h → ad' = ad.map (·.add (l * sz))) → VR I w κ (.lit ((elems.take h).drop l)) (.slice ad' (h - l) (cp - l)) := by
      intro ad' had
      by_cases hlh : l < h
      · have hne : elems ≠ [] := fun he => by subst he; simp at h2; omega
        have hssz : sz' = sz := by
          obtain ⟨e, he⟩ := List.exists_mem_of_ne_nil _ hne
          rw [← hsz e he, hs e he]
        subst hssz
        obtain ⟨b, ov, rfl, hI, hcell⟩ := hc hne
        have hidx : ∀ j, j < (h - l) * sz' → l * sz' + j < elems.length * sz' := by
          intro j hj
          have h3 : (h - l) * sz' + l * sz' ≤ elems.length * sz' := by rw [← Nat.add_mul]; exact Nat.mul_le_mul_right _ (by omega)
          omega
        have hflat : ∀ j x, ((elems.take h).drop l).flatten[j]? = some x → elems.flatten[l * sz' + j]? = some x := by
          intro j x hj
          have hall : ∀ e ∈ (elems.take h).drop l, e.length = sz' := fun e he => hsz e (List.mem_of_mem_take (List.mem_of_mem_drop he))
          have hjl := (List.getElem?_eq_some_iff.1 hj).1
          rw [flat_len hall, hlen] at hjl
          have h0 : sz' ≠ 0 := fun hh => by rw [hh] at hjl; omega
          have hq : j = (j / sz') * sz' + j % sz' := by rw [Nat.mul_comm]; exact (Nat.div_add_mod j sz').symm
          have hk : j / sz' < h - l := Nat.div_lt_of_lt_mul (by rw [Nat.mul_comm]; exact hjl)
          have hmod : j % sz' < sz' := Nat.mod_lt _ (by omega)
          rw [hq, flat_get hall (by rw [hlen]; exact hk) hmod] at hj
          have e1 : l * sz' + j = (l + j / sz') * sz' + j % sz' := by rw [Nat.add_mul]; omega
          rw [e1, flat_get hsz (by omega) hmod]
          rw [← hj]
          congr 1
          simp only [List.getD, List.getElem?_drop, List.getElem?_take]
          rw [if_pos (by omega)]
        have := VR.lit (I := I) (w := w) (κ := κ) (elems := (elems.take h).drop l) (a := some ⟨b, ov + l * sz', none⟩) (cp := cp - l) sz' (fun j => us (l * sz' + j)) (by rw [hlen]; omega) (by rw [hlen]; omega)
          (fun e he => hsz e (List.mem_of_mem_take (List.mem_of_mem_drop he))) (fun _ => ⟨b, ov + l * sz', rfl, hI, fun j hj => by
            rw [hlen] at hj
            rw [Nat.add_assoc]
            exact hcell _ (hidx j hj)⟩) (fun j hj => by rw [hlen] at hj; exact hone _ (hidx j hj)) (fun j x hj => hvr _ x (hflat j x hj))
        rw [hlen] at this
        rw [had hlh]
        simp only [Option.map_some, cell_add]
        exact this
      · have he : (elems.take h).drop l = [] := by
          apply List.eq_nil_of_length_eq_zero
          rw [hlen]
          omega
        have h0 : h - l = 0 := by omega
        rw [he, h0]
        exact .lit (elems := []) (a := ad') (cp := cp - l) sz us (Nat.zero_le _) (Nat.zero_le _) (by simp) (fun hh => absurd rfl hh) (by intro j hj; simp at hj) (fun j x hx => by simp at hx)
    split
    · rename_i e
      exact key _ (fun hlh => by omega)
    · exact key _ (fun _ => rfl)

theorem op_slice_lit {t : Nat} {x : Operand} {lo hi : Option Operand} (ho : o.op = .slice t x lo hi none) {i j : TI} (hi' : TyIs P t i) {e : Nat} (hd : i.d = .slice e) (hj : TyIs P e j) {elems : List (List AV)} (hx : aeval G fr x = .lit elems) {l h : Int} (hl : optI G fr lo 0 = some l) (hh : optI G fr hi elems.length = some h)
    (h0 : 0 ≤ l) (h1 : l ≤ h) (h2 : h ≤ elems.length) (hs : ∀ e ∈ elems, e.length = j.size) : OpOk P G o fr H (.lit ((elems.take h.toNat).drop l.toNat)) H :=
  .here fun κ I a w hg hr hf => by
    have hv := aeval_vr hg hf x
    rw [hx] at hv
    generalize ha : a.eval x = v at hv
    obtain ⟨ad, cp, rfl, hcp, hvr⟩ := lit_sub hv (l := l.toNat) (h := h.toNat) (sz := j.size) (by omega) (by omega) hs
    have hb := run_bounds (P := P) (w := w) hg hf (isS := true) (len := elems.length) (cap := cp) hl hh h0 h1 (by omega)
    have hst := hi'.slice hd
    refine ⟨_, ?_, hvr⟩
    simp [execOp, ho, ha, Instr.sliceAt, Instr.slice, run_underlying hst, hb, hj.run_size, sliced]

/-- The length of a value. -/
def alen : AV → Option Int
  | .str s => some s.length
  | .lit e => some e.length
  | .slice _ st => some st
  | .nils => some 0
  | .nilm => some 0
  | _ => none

theorem op_len {t : Nat} {x : Operand} (ho : o.op = .call { callee := .builtin .len, args := #[x], argTypes := #[t] }) {i : TI} (hi : TyIs P t i) {n : Int} (hx : alen (aeval G fr x) = some n)
    (hd : (match aeval G fr x with | .str _ => i.d == .str | .nilm => (match i.d with | .map .. => true | _ => false) | _ => (match i.d with | .slice _ => true | _ => false)) = true) : OpOk P G o fr H (.int .i64 n) H :=
  .here fun κ I a w hg hr hf => by
    have hv := aeval_vr hg hf x
    obtain ⟨d, h1, h2⟩ := hi.desc
    refine ⟨.int .i64 n, ?_, .int⟩
    generalize ha : a.eval x = v at hv
    generalize aeval G fr x = y at hv hx hd
    have hun := run_underlying (P := P) h1 w
    cases hv <;> simp only [alen] at hx <;> (try (cases hx; done)) <;> (try cases hx) <;> simp only at hd
    · have hk : i.d = .str := by simpa using hd
      rw [hk] at h2
      cases d <;> simp [TD.ok] at h2
      simp [execOp, ho, resolve, invoke, builtin, Builtin.len_, ha, hun, goInt, ofL_size]
    · split at hd
      · rename_i e hk
        rw [hk] at h2
        cases d <;> simp [TD.ok] at h2
        simp [execOp, ho, resolve, invoke, builtin, Builtin.len_, ha, hun, goInt]
      · cases hd
    · rename_i c hc hst hl h
      obtain ⟨ad, cp, rfl⟩ := hl
      split at hd
      · rename_i e hk
        rw [hk] at h2
        cases d <;> simp [TD.ok] at h2
        simp [execOp, ho, resolve, invoke, builtin, Builtin.len_, ha, hun, goInt]
      · cases hd
    · split at hd
      · rename_i e hk
        rw [hk] at h2
        cases d <;> simp [TD.ok] at h2
        simp [execOp, ho, resolve, invoke, builtin, Builtin.len_, ha, hun, goInt]
      · cases hd
    · split at hd
      · rename_i e hk
        rw [hk] at h2
        cases d <;> simp [TD.ok] at h2
        simp [execOp, ho, resolve, invoke, builtin, Builtin.len_, ha, hun, goInt]
      · cases hd

/-! ### Arithmetic and comparisons -/
def sideT : Option (Prop × AV) := none
/-- A binary operation: what is asked for, and what it gives. -/
def abin (op : BinOp) (x y : AV) : Option (Prop × AV) :=
  match x, y with
  | .int k a, .int k' b =>
    match op with
    | .shl => some (0 ≤ b, .int k (k.wrap (a * 2 ^ (min b.toNat k.bits))))
    | .shr => some (0 ≤ b, .int k (a.fdiv (2 ^ (min b.toNat k.bits))))
    | _ => if k = k' then
      match op with
      | .add => some (True, .int k (k.wrap (a + b)))
      | .sub => some (True, .int k (k.wrap (a - b)))
      | .mul => some (True, .int k (k.wrap (a * b)))
      | .quo => some (b ≠ 0, .int k (k.wrap (a.tdiv b)))
      | .rem => some (b ≠ 0, .int k (a.tmod b))
      | .and => some (True, .int k (Go.bits .and k a b))
      | .or => some (True, .int k (Go.bits .or k a b))
      | .andNot => some (True, .int k (Go.bits .andNot k a b))
      | .eql => some (True, .bool (a == b))
      | .neq => some (True, .bool (a != b))
      | .lss => some (True, .bool (decide (a < b)))
      | .leq => some (True, .bool (decide (a ≤ b)))
      | .gtr => some (True, .bool (decide (a > b)))
      | .geq => some (True, .bool (decide (a ≥ b)))
      | _ => none
      else none
  | .str a, .str b =>
    match op with
    | .add => some (a.length + b.length ≤ maxLen, .str (a ++ b))
    | .eql => some (True, .bool (a == b))
    | .neq => some (True, .bool (!(a == b)))
    | .lss => some (True, .bool (Op.bytesLess a b))
    | .leq => some (True, .bool (Op.bytesLess a b || a == b))
    | .gtr => some (True, .bool (!(Op.bytesLess a b || a == b)))
    | .geq => some (True, .bool (!(Op.bytesLess a b)))
    | _ => none
  | _, _ => none

theorem toList_ofL (s : List UInt8) : (ofL s).toList = s := ByteArray.toList_mk s
theorem append_ofL (s t : List UInt8) : ofL s ++ ofL t = ofL (s ++ t) := by
  have : (ofL s ++ ofL t).data = (ofL (s ++ t)).data := by
    rw [ByteArray.data_append]
    apply Array.ext'
    simp [ofL]
  cases hx : ofL s ++ ofL t with
  | mk d => rw [hx] at this; simp only at this; rw [this]

def toV : AV → Value
  | .bool b => .bool b
  | .int k n => .int k n
  | .str s => .string (ofL s)
  | _ => undef
theorem toV_int {κ : Kap} {I : Nat → Prop} {w : World} {k : IntKind} {n : Int} {R : Result Next} (h : R = .ok (.value (.int k n)) w) : ∃ u, R = .ok (.value u) w ∧ VR I w κ (.int k n) u := ⟨_, h, .int⟩
theorem toV_bool {κ : Kap} {I : Nat → Prop} {w : World} {b : Bool} {R : Result Next} (h : R = .ok (.value (.bool b)) w) : ∃ u, R = .ok (.value u) w ∧ VR I w κ (.bool b) u := ⟨_, h, .bool⟩
theorem toV_str {κ : Kap} {I : Nat → Prop} {w : World} {s : List UInt8} {R : Result Next} (hs : s.length ≤ maxLen) (h : R = .ok (.value (.string (ofL s))) w) : ∃ u, R = .ok (.value u) w ∧ VR I w κ (.str s) u := ⟨_, h, .str hs⟩

theorem cat_fits {a b : List UInt8} (h : a.length + b.length ≤ maxLen) : ¬ ((((ofL a).size + (ofL b).size : Nat) : Int) > IntKind.i64.max) := by
  rw [ofL_size, ofL_size, IntKind.max_i64]
  unfold maxLen at h
  omega

theorem op_bin {op : BinOp} {t u : Nat} {x y : Operand} (ho : o.op = .binOp op t x y u) {p : Prop} {v : AV} (hb : abin op (aeval G fr x) (aeval G fr y) = some (p, v)) (hp : p) : OpOk P G o fr H v H :=
  .here fun κ I a w hg hr hf => by
    have hx := aeval_vr hg hf x
    have hy := aeval_vr hg hf y
    generalize ha : a.eval x = vx at hx
    generalize ha' : a.eval y = vy at hy
    generalize aeval G fr x = X at hx hb
    generalize aeval G fr y = Y at hy hb
    unfold abin at hb
    split at hb
    · rename_i k m k' n
      cases hx; cases hy
      cases op <;> simp only at hb <;> (try split at hb) <;> (try (cases hb; done)) <;> cases hb <;> (try subst_vars) <;> first | refine toV_int ?_ | refine toV_bool ?_
      all_goals first
          | (simp [execOp, ho, ha, ha', eqGuard, binOp, Op.intArith, Op.intCmp, Op.intBits, Op.intDiv, Go.bits, hp]; done)
          | (simp [execOp, ho, ha, ha', eqGuard, binOp, Op.shift, Int.not_lt.2 hp]; done)
    · cases hx with
      | str h1 =>
      cases hy with
      | str h2 =>
      cases op <;> simp only at hb <;> (try (cases hb; done)) <;> cases hb <;> first | refine toV_bool ?_ | refine toV_str ?_ ?_
      all_goals first
          | (simp [execOp, ho, ha, ha', eqGuard, binOp, Op.stringOp, toList_ofL]; done)
          | (simpa using hp)
          | (have hp' := cat_fits hp
             simp only [execOp, ho, ha, ha', eqGuard, binOp, Op.stringOp]
             rw [if_neg hp']
             simp [append_ofL])
    · cases hb
end
end Go.Proofs.Ax
/- AX, part M: equality beyond numbers and strings, conversions, append. -/
set_option linter.unusedVariables false
set_option linter.unusedSimpArgs false
namespace Go.Proofs.Ax
open Go.RowKit

section
variable {P : Program} {G : Glob} {o : Oper} {fr : Fr} {H : AH}

/-! ### Equality -/
def eqB (op : BinOp) (b : Bool) : Bool := match op with | .eql => b | _ => !b
/-- Against nil, and of bools. -/
def aeql (d : TD) (x y : AV) : Option (Prop × Bool) :=
  match d, x, y with
  | .bool, .bool a, .bool b => some (True, a == b)
  | .slice _, .nils, .nils => some (True, true)
  | .slice _, .lit e, .nils => some (e ≠ [], false)
  | .slice _, .nils, .lit e => some (e ≠ [], false)
  | .ptr _, .nilp, .nilp => some (True, true)
  | .ptr _, .ptr .., .nilp => some (True, false)
  | .ptr _, .lptr .., .nilp => some (True, false)
  | .func, .nilf, .nilf => some (True, true)
  | .func, .func .., .nilf => some (True, false)
  | .iface, .iface .., .nili => some (True, false)
  | _, _, _ => none

theorem run_aeql {κ : Kap} {I : Nat → Prop} {w : World} {t : Nat} {i : TI} (hi : TyIs P t i) {X Y : AV} {x y : Value} (hx : VR I w κ X x) (hy : VR I w κ Y y) {p : Prop} {b : Bool} (h : aeql i.d X Y = some (p, b)) (hp : p) :
    (∀ d, (Op.equalIn (d + 1) t x y).run P w = .ok b w) ∧ (∀ op xo yo, eqGuard op t xo yo x y = pure ()) ∧ (∀ op, (op = .eql ∨ op = .neq) → binOp op t x y = (do let r ← Op.equal t x y; pure (.bool (eqB op r)))) := by
  obtain ⟨d, h1, h2⟩ := hi.desc
  have hun := run_underlying (P := P) h1 w
  unfold aeql at h
  split at h <;> (try (cases h; done)) <;> cases h <;> rename_i hd <;> rw [hd] at h2 <;> cases d <;> simp [TD.ok] at h2
  · cases hx; cases hy
    exact ⟨fun d => by simp [Op.equalIn, hun], fun op _ _ => by cases op <;> rfl, fun op ho => by rcases ho with rfl | rfl <;> rfl⟩
  · cases hx; cases hy
    exact ⟨fun d => by simp [Op.equalIn, hun], fun op _ _ => by cases op <;> rfl, fun op ho => by rcases ho with rfl | rfl <;> rfl⟩
  · cases hy
    cases hx with
    | lit sz us hcp hm hsz hc h3 h4 =>
      obtain ⟨bb, ov, rfl, _⟩ := hc hp
      exact ⟨fun d => by simp [Op.equalIn, hun], fun op _ _ => by cases op <;> rfl, fun op ho => by rcases ho with rfl | rfl <;> rfl⟩
  · cases hx
    cases hy with
    | lit sz us hcp hm hsz hc h3 h4 =>
      obtain ⟨bb, ov, rfl, _⟩ := hc hp
      exact ⟨fun d => by simp [Op.equalIn, hun], fun op _ _ => by cases op <;> rfl, fun op ho => by rcases ho with rfl | rfl <;> rfl⟩
  · cases hx; cases hy
    exact ⟨fun d => by simp [Op.equalIn, hun], fun op _ _ => by cases op <;> rfl, fun op ho => by rcases ho with rfl | rfl <;> rfl⟩
  · cases hy
    cases hx with
    | ptr c hc hst hq hh =>
      obtain ⟨ad, rfl⟩ := hq
      exact ⟨fun d => by simp [Op.equalIn, hun], fun op _ _ => by cases op <;> rfl, fun op ho => by rcases ho with rfl | rfl <;> rfl⟩
  · cases hy; cases hx
    exact ⟨fun d => by simp [Op.equalIn, hun], fun op _ _ => by cases op <;> rfl, fun op ho => by rcases ho with rfl | rfl <;> rfl⟩
  · cases hx; cases hy
    exact ⟨fun d => by simp [Op.equalIn, hun], fun op _ _ => by cases op <;> rfl, fun op ho => by rcases ho with rfl | rfl <;> rfl⟩
  · cases hx; cases hy
    exact ⟨fun d => by simp [Op.equalIn, hun], fun op _ _ => by cases op <;> rfl, fun op ho => by rcases ho with rfl | rfl <;> rfl⟩
  · cases hx; cases hy
    exact ⟨fun d => by simp [Op.equalIn, hun], fun op _ _ => by cases op <;> rfl, fun op ho => by rcases ho with rfl | rfl <;> rfl⟩

theorem run_equal_of {t : Nat} {x y : Value} {b : Bool} {w : World} (h : ∀ d, (Op.equalIn (d + 1) t x y).run P w = .ok b w) : (Op.equal t x y).run P w = .ok b w := h 9999

theorem op_eql {op : BinOp} {t u : Nat} {x y : Operand} (ho : o.op = .binOp op t x y u) (hop : op = .eql ∨ op = .neq) {i : TI} (hi : TyIs P t i) {p : Prop} {b : Bool} (h : aeql i.d (aeval G fr x) (aeval G fr y) = some (p, b)) (hp : p) :
    OpOk P G o fr H (.bool (eqB op b)) H :=
  .here fun κ I a w hg hr hf => by
    obtain ⟨h1, h2, h3⟩ := run_aeql (P := P) hi (aeval_vr hg hf x) (aeval_vr hg hf y) h hp
    refine toV_bool ?_
    have e := run_equal_of h1
    simp only [execOp, ho, h2, h3 op hop, Sem.run_bind, Sem.run_pure, Result.andThen_ok, e]

/-- Structs of numbers, texts and bools, field by field. -/
def aeqs : List AV → List AV → Option Bool
  | [], [] => some true
  | .str a :: xs, .str b :: ys => (aeqs xs ys).map fun r => (a == b) && r
  | .int k a :: xs, .int k' b :: ys => if k = k' then (aeqs xs ys).map fun r => (a == b) && r else none
  | .bool a :: xs, .bool b :: ys => (aeqs xs ys).map fun r => (a == b) && r
  | _, _ => none

/-- Which struct types are flat: their fields' descriptions, one cell each. -/
def flatOk (P : Program) (t : Nat) (ds : List TD) : Bool :=
  P.stoodInHeld t == false && P.eqGuardType P.depth t == false &&
  match P.underlying t with
  | some (.struct fields) => go fields.toList ds 0
  | _ => false
where
  go : List Field → List TD → Nat → Bool
    | [], [], _ => true
    | f :: fs, d :: ds, n => f.name != "_" && f.offset == n && (match P.underlying f.type with | some u => d.ok P u | none => false) && (match d with | .int _ | .str | .bool => true | _ => false) && go fs ds (n + 1)
    | _, _, _ => false

/-- One cell against another one, for sure flat. -/
def aeq1 : AV → AV → Option Bool
  | .str a, .str b => some (a == b)
  | .int k a, .int k' b => if k = k' then some (a == b) else none
  | .bool a, .bool b => some (a == b)
  | _, _ => none
theorem aeqs_cons {x y : AV} {xs ys : List AV} {b : Bool} (h : aeqs (x :: xs) (y :: ys) = some b) : ∃ c r, aeq1 x y = some c ∧ aeqs xs ys = some r ∧ b = (c && r) := by
  cases x <;> cases y <;> simp only [aeqs] at h <;> (try (cases h; done))
  · obtain ⟨r, hr, rfl⟩ := Option.map_eq_some_iff.1 h; exact ⟨_, r, rfl, hr, rfl⟩
  · split at h
    · rename_i hk
      obtain ⟨r, hr, rfl⟩ := Option.map_eq_some_iff.1 h; exact ⟨_, r, by simp [aeq1, hk], hr, rfl⟩
    · cases h
  · obtain ⟨r, hr, rfl⟩ := Option.map_eq_some_iff.1 h; exact ⟨_, r, rfl, hr, rfl⟩

def kindOk1 : TD → AV → Bool
  | .int _, .int .. => true
  | .str, .str _ => true
  | .bool, .bool _ => true
  | _, _ => false

theorem run_eq1 {κ : Kap} {I : Nat → Prop} {w : World} {X Y : AV} {x y : Value} (hx : VR I w κ X x) (hy : VR I w κ Y y) {c : Bool} (h : aeq1 X Y = some c) {t : Nat} {u : TypeDesc} (hu : P.underlying t = some u) {d : TD} (hd : d.ok P u = true)
    (hk : kindOk1 d X = true) (n : Nat) : (Op.equalIn (n + 1) t x y).run P w = .ok c w := by
  have hun := run_underlying (P := P) hu w
  cases d <;> cases X <;> simp only [kindOk1] at hk <;> (try (cases hk; done)) <;> cases u <;> simp [TD.ok] at hd <;> cases Y <;> simp only [aeq1] at h <;> (try (cases h; done)) <;> cases hx <;> cases hy
  · cases h; simp [Op.equalIn, hun]
  · split at h
    · rename_i hk; subst hk; cases h; simp [Op.equalIn, hun]
    · cases h
  · cases h
    simp only [Op.equalIn, Sem.run_bind, hun, Result.andThen_ok, Sem.run_pure]
    congr 1
    rw [beq_toListBytes, toList_ofL, toList_ofL]

/-- The cells' kinds are the fields'. -/
def kindsOk : List TD → List AV → Bool
  | [], [] => true
  | d :: ds, x :: xs => kindOk1 d x && kindsOk ds xs
  | _, _ => false

theorem run_eqFields {κ : Kap} {I : Nat → Prop} {w : World} {xs ys : List Value} (D : Nat) : ∀ (fs : List Field) (ds : List TD) (X Y : List AV) (n : Nat) {b : Bool}, flatOk.go P fs ds n = true → kindsOk ds X = true → aeqs X Y = some b →
    (∀ j x, X[j]? = some x → VR I w κ x (xs.getD (n + j) undef) ∧ n + j < xs.length) → (∀ j y, Y[j]? = some y → VR I w κ y (ys.getD (n + j) undef) ∧ n + j < ys.length) → (Op.eqFields (D + 1) ⟨xs⟩ ⟨ys⟩ fs).run P w = .ok b w := by
  intro fs
  induction fs with
  | nil =>
    intro ds X Y n b h hl he hx hy
    cases ds with
    | cons => cases h
    | nil =>
      cases X with
      | cons => cases hl
      | nil =>
        cases Y with
        | nil => simp [aeqs] at he; subst he; rfl
        | cons => simp [aeqs] at he
  | cons f fs ih =>
    intro ds X Y n b h hl he hx hy
    cases ds with
    | nil => cases h
    | cons d ds =>
      cases X with
      | nil => cases hl
      | cons x X =>
        cases Y with
        | nil => cases x <;> simp [aeqs] at he
        | cons y Y =>
          simp only [flatOk.go, Bool.and_eq_true, bne_iff_ne, ne_eq, beq_iff_eq] at h
          obtain ⟨⟨⟨⟨a1, a2⟩, a3⟩, a4⟩, a5⟩ := h
          simp only [kindsOk, Bool.and_eq_true] at hl
          obtain ⟨hk, hl⟩ := hl
          have hx0 := hx 0 x rfl
          have hy0 := hy 0 y rfl
          simp only [Nat.add_zero] at hx0 hy0
          have hxn := hx0.2
          have hyn := hy0.2
          have ex : xs.getD n undef = xs[n] := by simp [List.getD, List.getElem?_eq_getElem hxn]
          have ey : ys.getD n undef = ys[n] := by simp [List.getD, List.getElem?_eq_getElem hyn]
          have hxr := hx0.1; rw [ex] at hxr
          have hyr := hy0.1; rw [ey] at hyr
          obtain ⟨c, r, hc, hr, rfl⟩ := aeqs_cons he
          split at a3
          · rename_i u hu
            have hun := run_underlying (P := P) hu w
            have part1 : ∀ us : List Value, (hlt : n < us.length) → (part f.type ⟨us⟩ f.offset).run P w = .ok us[n] w := fun us hlt => by
              have : (isAgg f.type).run P w = .ok false w := by
                unfold isAgg
                rw [Sem.run_bind, hun]
                cases d <;> simp at a4 <;> cases u <;> simp [TD.ok] at a3 <;> rfl
              simp [part, this, a2, List.getElem?_eq_getElem hlt]
            have h9 : (Op.eqFields (D + 1) ⟨xs⟩ ⟨ys⟩ fs).run P w = .ok r w := by
              refine ih ds X Y (n + 1) a5 hl hr (fun j z hz => ?_) (fun j z hz => ?_)
              · have := hx (j + 1) z (by simpa using hz); rwa [show n + 1 + j = n + (j + 1) by omega]
              · have := hy (j + 1) z (by simpa using hz); rwa [show n + 1 + j = n + (j + 1) by omega]
            have heq := run_eq1 (P := P) hxr hyr hc hu a3 hk D
            simp only [Op.eqFields]
            rw [if_pos a1]
            simp only [Sem.run_bind, part1 xs hxn, part1 ys hyn, Result.andThen_ok, heq]
            cases c <;> simp [h9]
          · cases a3

theorem op_eqs {op : BinOp} {t u : Nat} {x y : Operand} (ho : o.op = .binOp op t x y u) (hop : op = .eql ∨ op = .neq) {ds : List TD} (hf' : flatOk P t ds = true) {xs ys : List AV} (hx : aeval G fr x = .agg xs) (hy : aeval G fr y = .agg ys) (hk : kindsOk ds xs = true) {b : Bool} (h : aeqs xs ys = some b) :
    OpOk P G o fr H (.bool (eqB op b)) H :=
  .here fun κ I a w hg hr hf => by
    have hvx := aeval_vr hg hf x
    have hvy := aeval_vr hg hf y
    rw [hx] at hvx; rw [hy] at hvy
    generalize ha : a.eval x = vx at hvx
    generalize hb : a.eval y = vy at hvy
    simp only [flatOk, Bool.and_eq_true, beq_iff_eq] at hf'
    obtain ⟨⟨f1, f2⟩, f3⟩ := hf'
    split at f3
    · rename_i fields hu
      cases hvx with
      | @agg _ _ us1 l1 v1 =>
      cases hvy with
      | @agg _ _ us2 l2 v2 =>
      have hfo : P.fieldsOf t = fields := by simp [Program.fieldsOf, hu]
      have hrun : ∀ D, (Op.equalIn (D + 1 + 1) t (.agg ⟨us1⟩) (.agg ⟨us2⟩)).run P w = .ok b w := fun D => by
        rw [run_equalIn_struct w (D + 1) t ⟨us1⟩ ⟨us2⟩ (by rw [hfo]; exact hu) f1, hfo]
        refine run_eqFields (κ := κ) (I := I) D fields.toList ds xs ys 0 f3 hk h (fun j z hz => ?_) (fun j z hz => ?_)
        · have hlt := (List.getElem?_eq_some_iff.1 hz).1
          rw [Nat.zero_add]
          exact ⟨v1 j z hz, by omega⟩
        · have hlt := (List.getElem?_eq_some_iff.1 hz).1
          rw [Nat.zero_add]
          exact ⟨v2 j z hz, by omega⟩
      have heq : (Op.equal t (.agg ⟨us1⟩) (.agg ⟨us2⟩)).run P w = .ok b w := hrun 9998
      have hgd : ∀ xo yo, (eqGuard op t xo yo (.agg ⟨us1⟩) (.agg ⟨us2⟩)).run P w = .ok () w := fun xo yo => by
        rcases hop with rfl | rfl <;> simp [eqGuard, f2]
      refine toV_bool ?_
      rcases hop with rfl | rfl <;> simp only [execOp, ho, ha, hb, hgd, binOp, Sem.run_bind, Sem.run_pure, Result.andThen_ok, heq] <;> rfl
    · cases f3
end
end Go.Proofs.Ax

import Derived.Test.YthdnbnombelfpaaGreatDoorAx3
import Derived.Maps.AppendAt
/- AX, part N: append; conversions. -/
set_option linter.unusedVariables false
set_option linter.unusedSimpArgs false
namespace Go.Proofs.Ax
open Go.RowKit

section
variable {P : Program} {G : Glob} {o : Oper} {fr : Fr} {H : AH}

/-- A slice's value that can be read: its elements, where its cells are. -/
def Src (I : Nat → Prop) (w : World) (κ : Kap) (ys : List (List AV)) (sz : Nat) (y : Value) : Prop :=
  ∃ news : List Value, news.length = ys.length * sz ∧ (∀ j x, ys.flatten[j]? = some x → VR I w κ x (news.getD j undef)) ∧ (∀ u ∈ news, u.oneCell' = true) ∧
    ((∃ ad c, y = .slice (some ad) ys.length c ∧ ∀ j u, news[j]? = some u → w.cell? (ad.add j) = some u) ∨ ∃ a c, y = .slice a 0 c ∧ ys = [])

theorem src_lit {I : Nat → Prop} {w : World} {κ : Kap} {ys : List (List AV)} {sz : Nat} {y : Value} (h : VR I w κ (.lit ys) y) (hs : ∀ e ∈ ys, e.length = sz) : Src I w κ ys sz y := by
  cases h with
  | @lit _ _ ad cp sz' us hcp hm hsz hc h1 hvr =>
    by_cases he : ys = []
    · subst he
      exact ⟨[], by simp, by simp, by simp, .inr ⟨ad, cp, rfl, rfl⟩⟩
    · obtain ⟨e, hmem⟩ := List.exists_mem_of_ne_nil _ he
      have hss : sz' = sz := by rw [← hsz e hmem, hs e hmem]
      subst hss
      obtain ⟨b, ov, rfl, hI, hcell⟩ := hc he
      refine ⟨(List.range (ys.length * sz')).map us, by simp, fun j x hx => ?_, fun u hu => ?_, .inl ⟨⟨b, ov, none⟩, cp, rfl, fun j u hu => ?_⟩⟩
      · have hlt := (List.getElem?_eq_some_iff.1 hx).1
        rw [flat_len hsz] at hlt
        simp only [List.getD, List.getElem?_map, List.getElem?_range hlt, Option.map_some, Option.getD_some]
        exact (hvr j x hx).mono (fun _ h => h) (fun _ _ => rfl) (fun _ _ h => by cases h)
      · obtain ⟨j, hj, rfl⟩ := List.mem_map.1 hu
        exact h1 j (by simpa using hj)
      · rw [List.getElem?_map] at hu
        obtain ⟨q, hq, rfl⟩ := Option.map_eq_some_iff.1 hu
        have hlt := (List.getElem?_eq_some_iff.1 hq).1
        simp at hlt
        rw [List.getElem?_range hlt] at hq
        cases hq
        rw [cell_add]
        exact hcell _ hlt

theorem src_own {I : Nat → Prop} {w : World} {κ : Kap} (hr : HRel κ I H w) {id st e sz : Nat} {ys : List (List AV)} {y : Value} (hB : H[id]? = some (.row e sz ys)) (h : VR I w κ (.slice id st) y) (hst : st = ys.length) : Src I w κ ys sz y := by
  obtain ⟨c, us, hc, q1, q2, q3, q5, q6, q7⟩ := hr.ok id _ hB
  cases h with
  | slice c' hc' hst' hl hh =>
    obtain rfl : c' = c := by rw [hc] at hc'; cases hc'; rfl
    have hy := hh (by omega)
    refine ⟨us, q3.1, q7, q6, ?_⟩
    rcases q3.2 with ⟨e1, e2⟩ | ⟨g, cap, cur, e1, _⟩
    · exact .inr ⟨none, 0, by rw [hy, e1], List.eq_nil_of_length_eq_zero e2⟩
    · refine .inl ⟨⟨g, 0, none⟩, cap, by rw [hy, e1], fun j u hu => ?_⟩
      exact q3.cells (g := g) (by rw [e1]; rfl) j u hu

theorem src_nils {I : Nat → Prop} {w : World} {κ : Kap} {sz : Nat} {y : Value} (h : VR I w κ .nils y) : Src I w κ [] sz y := by
  cases h
  exact ⟨[], by simp, by simp, by simp, .inr ⟨none, 0, rfl, rfl⟩⟩

/-- An abstract slice's elements. -/
def elemsOf (H : AH) (sz : Nat) : AV → Option (List (List AV))
  | .nils => some []
  | .lit ys => some ys
  | .slice id st => match H[id]? with | some (.row _ _ ys) => some ys | _ => none
  | _ => none
/-- What is asked of it to be read. -/
def elemsSide (H : AH) (sz : Nat) : AV → Prop
  | .lit ys => ∀ e ∈ ys, e.length = sz
  | .slice id st => match H[id]? with | some (.row _ sz' ys) => sz' = sz ∧ st = ys.length | _ => False
  | _ => True

theorem src_of {I : Nat → Prop} {w : World} {κ : Kap} (hr : HRel κ I H w) {sz : Nat} {Y : AV} {y : Value} {ys : List (List AV)} (h : VR I w κ Y y) (he : elemsOf H sz Y = some ys) (hs : elemsSide H sz Y) : Src I w κ ys sz y := by
  cases Y <;> simp only [elemsOf] at he <;> (try (cases he; done))
  · cases he; exact src_nils h
  · split at he
    · rename_i e sz' ys' hB
      cases he
      simp only [elemsSide, hB] at hs
      obtain ⟨rfl, hs2⟩ := hs
      exact src_own hr hB h hs2
    · cases he
  · cases he; exact src_lit h hs

/-- append, of what is owned (or nil) and what can be read. -/
theorem run_append {w : World} {t ty e : Nat} {i j : TI} (hi : TyIs P t i) (hd : i.d = .slice e) (hj : TyIs P e j) (hj0 : 0 < j.size) {v : Value} {n : Nat} {us : List Value} (hown : w.ownsRow 0 e j.size v n us) {I : Nat → Prop} {κ : Kap} {ys : List (List AV)} {y : Value} (hs : Src I w κ ys j.size y)
    (hb : (n + ys.length) * j.bytes ≤ 140737488355328) (hb0 : 0 < j.bytes) :
    ∃ v' w' news, (Builtin.append_ #[t, t] ty #[v, y]).run P w = .ok v' w' ∧ w'.ownsRow 0 e j.size v' (n + ys.length) (us ++ news) ∧ w.grownBy w' v.ownBlock ∧ (∀ q x, ys.flatten[q]? = some x → VR I w κ x (news.getD q undef)) ∧ (∀ u ∈ news, u.oneCell' = true) ∧
      news.length = ys.length * j.size ∧ (∀ b, hblk v' = some b → w.heap.size ≤ b ∨ hblk v = some b) ∧ (ys = [] → v' = v) := by
  obtain ⟨news, n1, n2, n3, n4⟩ := hs
  obtain ⟨ii, i1, i2, i3, z, i4, i5, i6, i7, i8⟩ := hj.info
  have hlen : n + ys.length ≤ 140737488355328 := Nat.le_trans (Nat.le_mul_of_pos_right _ hb0) hb
  have hun := run_underlying (P := P) (hi.slice hd) w
  by_cases he : ys = []
  · subst he
    have hnews : news = [] := List.eq_nil_of_length_eq_zero (by simpa using n1)
    subst hnews
    refine ⟨v, w, [], ?_, by simpa using hown, ⟨rfl, rfl, rfl, Nat.le_refl _, fun _ _ _ => rfl⟩, by simp, by simp, by simp, fun b hb => .inr hb, fun _ => rfl⟩
    have hsz : (sizeOf e).run P w = .ok j.size w := hj.run_size w
    have hfirst : ∀ a c, (Builtin.firstCells j.size 0 (.slice a 0 c)).run P w = .ok #[] w := by
      intro a c
      cases a <;> simp [Builtin.firstCells, loadCells, loadCellsFrom]
    have hy : ∃ a c, y = .slice a 0 c := by
      rcases n4 with ⟨ad, c, rfl, _⟩ | ⟨a, c, rfl, _⟩
      · exact ⟨_, _, rfl⟩
      · exact ⟨_, _, rfl⟩
    obtain ⟨a, c, rfl⟩ := hy
    rcases hown.2 with ⟨rfl, rfl⟩ | ⟨g, cap, cur, rfl, _, _, q3, _⟩
    · simp [Builtin.append_, hun, hsz, Builtin.lenOf, hfirst]
    · simp [Builtin.append_, hun, hsz, Builtin.lenOf, hfirst, q3, storeCells]
  · rcases n4 with ⟨ad, c, rfl, hcell⟩ | ⟨a, c, rfl, h0⟩
    · obtain ⟨v', w', r1, r2, r3, r4, r5⟩ := run_append_own_at (P := P) w 0 t ty e ii z j.size j.bytes (hi.slice hd) i1 i4 i2 i3 (by rw [i6]) hj0 v n us hown ad ys.length c news n1 hcell n3 (by unfold maxLen; omega) hb (Nat.zero_le _)
      refine ⟨v', w', news, r1, r2, r3, n2, n3, n1, fun b hb' => ?_, fun h => absurd h he⟩
      have hob : v'.ownBlock = some b := by
        rcases r2.2 with ⟨e1, _⟩ | ⟨g, cap, cur, e1, _⟩
        · rw [e1] at hb'; cases hb'
        · rw [e1] at hb' ⊢; exact hb'
      rcases r5 with h5 | h5
      · rw [hob] at h5
        right
        cases v <;> first | (cases h5; done) | skip
        rename_i a2 n2' c2
        cases a2 with
        | none => cases h5
        | some a2 => exact h5.symm
      · rw [hob] at h5
        cases h5
        exact .inl (Nat.le_refl _)
    · exact absurd h0 he

/-- append onto a row of the call's own. -/
theorem op_append_own {t : Nat} {x y : Operand} (ho : o.op = .call { callee := .builtin .append, args := #[x, y], argTypes := #[t, t] }) {i j : TI} (hi : TyIs P t i) {e : Nat} (hd : i.d = .slice e) (hj : TyIs P e j) (hj0 : 0 < j.size) (hb0 : 0 < j.bytes)
    {id st e' sz : Nat} {elems ys : List (List AV)} (hx : aeval G fr x = .slice id st) (hB : H[id]? = some (.row e' sz elems)) (he' : e' = e) (hsz : sz = j.size) (hst : st = elems.length)
    (hy : elemsOf H j.size (aeval G fr y) = some ys) (hys : elemsSide H j.size (aeval G fr y)) (hl : ∀ z ∈ ys, z.length = j.size) (hbound : (elems.length + ys.length) * j.bytes ≤ 140737488355328) :
    OpOk P G o fr H (.slice id (elems.length + ys.length)) (H.set id (.row e' sz (elems ++ ys))) := by
  intro κ I a w hg hr hf
  subst he'; subst hsz
  have hv := aeval_vr hg hf x
  rw [hx] at hv
  have hsrc := src_of hr (aeval_vr hg hf y) hy hys
  have hok := hr.ok id _ hB
  obtain ⟨c, us, hc, q1, q2, q3, q5, q6, q7⟩ := hok
  generalize ha : a.eval x = v at hv
  cases hv with
  | slice c' hc' hst' hl' hh =>
    obtain rfl : c' = c := by rw [hc] at hc'; cases hc'; rfl
    have hv' := hh (by omega)
    subst hv'
    obtain ⟨v', w', news, r1, r2, r3, r4, r5, r6, r7, r8⟩ := run_append (P := P) (w := w) (ty := o.type) hi hd hj hj0 q3 hsrc hbound hb0
    have hkeep : ∀ b, b < w.heap.size → hblk c'.hdr ≠ some b → w'.heap[b]? = w.heap[b]? := fun b hb hne => by
      refine r3.block b hb fun ee => hne ?_
      generalize c'.hdr = hd' at ee ⊢
      cases hd' <;> first | (cases ee; done) | skip
      rename_i a2 n2 c2
      cases a2 with
      | none => cases ee
      | some a2 => exact ee.symm
    have hxx : Ext κ (upd κ id ⟨v', elems.length + ys.length, c'.sz⟩) := by
      intro q z hz
      by_cases ee : q = id
      · subst ee
        rw [hc] at hz; cases hz
        refine ⟨_, upd_same _ _ _, by simp only; omega, fun h9 => ?_⟩
        simp only at h9
        have h0 : ys = [] := List.eq_nil_of_length_eq_zero (by omega)
        rw [r8 h0, h0]
        cases c'
        simp only at q1 ⊢
        simp [q1]
      · exact ⟨z, by rw [upd_ne _ _ ee]; exact hz, Nat.le_refl _, fun _ => rfl⟩
    have hImm : ∀ b, I b → w'.heap[b]? = w.heap[b]? := fun b hb => hkeep b (hr.sep b hb).1 fun ee => (hr.sep b hb).2 ⟨id, _, c', hB, rfl, hc, ee⟩
    have hBk : BOk I w' (upd κ id ⟨v', elems.length + ys.length, c'.sz⟩) id (.row e' j.size (elems ++ ys)) := by
      refine ⟨_, us ++ news, upd_same _ _ _, by simp, q2, by simpa using r2, fun el hel => ?_, fun u hu => ?_, fun q z hz => ?_⟩
      · rcases List.mem_append.1 hel with h9 | h9
        · exact q5 el h9
        · exact hl el h9
      · rcases List.mem_append.1 hu with h9 | h9
        · exact q6 u h9
        · exact r5 u h9
      · rw [List.flatten_append] at hz
        have hfl : elems.flatten.length = us.length := by rw [flat_len q5, q3.1]
        by_cases hq : q < elems.flatten.length
        · rw [List.getElem?_append_left hq] at hz
          have h9 := (q7 q z hz).mono (fun _ h => h) hImm hxx
          rw [List.getD_eq_getElem?_getD, List.getElem?_append_left (by omega), ← List.getD_eq_getElem?_getD]
          exact h9
        · rw [List.getElem?_append_right (by omega)] at hz
          have h9 := (r4 _ z hz).mono (fun _ h => h) hImm hxx
          rw [List.getD_eq_getElem?_getD, List.getElem?_append_right (by omega), ← List.getD_eq_getElem?_getD, ← hfl]
          exact h9
    obtain ⟨m1, m2⟩ := hr.write (w' := w') (c := ⟨v', elems.length + ys.length, c'.sz⟩) hB rfl hc r3.os r3.tape r3.output r3.size hkeep (by simp only; omega) (fun h9 => by
      simp only at h9
      have h0 : ys = [] := List.eq_nil_of_length_eq_zero (by omega)
      rw [r8 h0, h0]
      cases c'
      simp only at q1 ⊢
      simp [q1]) r7 hBk
    refine ⟨v', _, I, w', .inl ?_, .slice _ (upd_same _ _ _) (Nat.le_refl _) ?_ (fun _ => rfl), m1, m2⟩
    · simp [execOp, ho, resolve, invoke, builtin, ha, r1]
    · rcases r2.2 with ⟨e1, e2⟩ | ⟨g, cap, cur, e1, _⟩
      · exact ⟨_, _, by rw [e1, e2]⟩
      · exact ⟨_, _, e1⟩

/-- append onto nil: a row of the call's own. -/
theorem op_append_nil {t : Nat} {x y : Operand} (ho : o.op = .call { callee := .builtin .append, args := #[x, y], argTypes := #[t, t] }) {i j : TI} (hi : TyIs P t i) {e : Nat} (hd : i.d = .slice e) (hj : TyIs P e j) (hj0 : 0 < j.size) (hb0 : 0 < j.bytes)
    {ys : List (List AV)} (hx : aeval G fr x = .nils) (hy : elemsOf H j.size (aeval G fr y) = some ys) (hys : elemsSide H j.size (aeval G fr y)) (hl : ∀ z ∈ ys, z.length = j.size) (hbound : ys.length * j.bytes ≤ 140737488355328) :
    OpOk P G o fr H (.slice H.length ys.length) (H ++ [.row e j.size ys]) := by
  intro κ I a w hg hr hf
  have hv := aeval_vr hg hf x
  rw [hx] at hv
  have hsrc := src_of hr (aeval_vr hg hf y) hy hys
  generalize ha : a.eval x = v at hv
  cases hv
  obtain ⟨v', w', news, r1, r2, r3, r4, r5, r6, r7, r8⟩ := run_append (P := P) (w := w) (ty := o.type) hi hd hj hj0 (World.ownsRow_nil w 0 e j.size) hsrc (by rw [Nat.zero_add]; exact hbound) hb0
  rw [Nat.zero_add, List.nil_append] at r2
  have hkeep : ∀ b, b < w.heap.size → w'.heap[b]? = w.heap[b]? := fun b hb => r3.block b hb (by simp [Value.ownBlock])
  have hxx : Ext κ (upd κ H.length ⟨v', ys.length, j.size⟩) := Ext.upd_new _ hr.new_none
  obtain ⟨m1, m2⟩ := hr.push (w' := w') (B := .row e j.size ys) (c := ⟨v', ys.length, j.size⟩) r3.os r3.tape r3.output r3.size hkeep (fun b hb => by
      rcases r7 b hb with h9 | h9
      · exact h9
      · cases h9)
    ⟨_, news, upd_same _ _ _, rfl, rfl, r2, hl, r5, fun q z hz => (r4 q z hz).mono (fun _ h => h) (fun b hb => hkeep b (hr.sep b hb).1) hxx⟩
  refine ⟨v', _, I, w', .inl ?_, .slice _ (upd_same _ _ _) (Nat.le_refl _) ?_ (fun _ => rfl), m1, m2⟩
  · simp [execOp, ho, resolve, invoke, builtin, ha, r1]
  · rcases r2.2 with ⟨e1, e2⟩ | ⟨g, cap, cur, e1, _⟩
    · exact ⟨_, _, by rw [e1, e2]⟩
    · exact ⟨_, _, e1⟩

/-- A nil slice in a slot is a row of the call's own, without elements. -/
theorem ASt.own (d e sz : Nat) (hx : fr.get d = .nils) : ASt fr H { fr with s := (d, .slice H.length 0) :: fr.s } (H ++ [.row e sz []]) := by
  intro κ I a w hr hf
  have hv := hf.get d
  rw [hx] at hv
  have hxx : Ext κ (upd κ H.length ⟨.slice none 0 0, 0, sz⟩) := Ext.upd_new _ hr.new_none
  obtain ⟨m1, m2⟩ := hr.push (w' := w) (B := .row e sz []) (c := ⟨.slice none 0 0, 0, sz⟩) rfl rfl rfl (Nat.le_refl _) (fun _ _ => rfl) (fun b hb => by cases hb)
    ⟨_, [], upd_same _ _ _, rfl, rfl, World.ownsRow_nil w 0 e sz, by simp, by simp, by simp⟩
  have hf2 := m2.frel hr hf
  refine ⟨_, I, m1, ⟨hf2.size, fun q z hz => ?_, hf2.dlen, hf2.defs⟩, m2⟩
  simp only [List.lookup] at hz
  by_cases ee : q = d
  · subst ee
    simp only [beq_self_eq_true, Option.some.injEq] at hz
    subst hz
    generalize a.tmps.getD q undef = v at hv
    cases hv
    exact .slice _ (upd_same _ _ _) (Nat.le_refl _) ⟨_, _, rfl⟩ (fun _ => rfl)
  · have ee' : (q == d) = false := by simpa using ee
    rw [ee'] at hz
    exact hf2.slot q z hz
end
end Go.Proofs.Ax
/- AX, part O: regions; calls. -/
set_option linter.unusedVariables false
set_option linter.unusedSimpArgs false
namespace Go.Proofs.Ax
open Go.RowKit

theorem upon_mono {P : Program} {o : Oper} {a : Act} {K K' : Act → World → Prop} {Q Q' : Exit → Act → World → Prop} (hK : ∀ a w, K a w → K' a w) (hQ : ∀ e a w, Q e a w → Q' e a w) {r : Result Next} (h : o.upon P a K Q r) : o.upon P a K' Q' r := by
  cases r with
  | ok n w =>
    cases n <;> simp only [Oper.upon] at h ⊢ <;> first | exact hK _ _ h | skip
    · refine h.mono fun e w' he => ?_
      cases e with
      | returned v => exact hK _ _ he
      | panicked c => exact hQ _ _ _ he
      | outgrown => obtain ⟨x, y, hxy⟩ := he; exact ⟨x, y, hQ _ _ _ hxy⟩
    · exact h.mono fun v w' he => hK _ _ he
  | halt x w =>
    cases x <;> simp only [Oper.upon] at h ⊢
    exact hQ _ _ _ h

theorem wpList_mono {P : Program} {ops : Array Oper} {Q Q' : Exit → Act → World → Prop} (hQ : ∀ e a w, Q e a w → Q' e a w) : ∀ (rest : List Oper) (a : Act) (w : World), wpList P ops Q rest a w → wpList P ops Q' rest a w := by
  intro rest
  induction rest with
  | nil => intro a w h; exact hQ _ _ _ h
  | cons o rest ih =>
    intro a w h
    simp only [wpList] at h ⊢
    split
    · rename_i hw
      rw [if_pos hw] at h
      rcases h with h | ⟨h, x, y, hxy⟩
      · exact .inl (upon_mono (fun a w => ih a w) hQ h)
      · exact .inr ⟨h, x, y, hQ _ _ _ hxy⟩
    · rename_i hw
      rw [if_neg hw] at h
      exact ih _ _ h

section
variable {P : Program} {G : Glob} {ops : Array Oper} {rest : List Oper} {o : Oper} {fr : Fr} {H : AH} {Q : AQ}

/-- What is left of a region. -/
def AOps (P : Program) (G : Glob) (ops : Array Oper) (rest : List Oper) (fr : Fr) (H : AH) (Q : AQ) : Prop :=
  ∀ κ I a w, GRel I w G → HRel κ I H w → FRel I w κ fr a → wpList P ops (APost κ I H w Q) rest a w

theorem AWp.region {id : Nat} (h : AOps P G ops ops.toList fr H Q) : AWp P G (.region id ops false) fr H Q :=
  fun κ I a w hg hr hf => wp_region_list (h κ I a w hg hr hf)
theorem AWp.region_lit {id : Nat} {l : List Oper} (h : AOps P G l.toArray l fr H Q) : AWp P G (.region id l.toArray false) fr H Q :=
  fun κ I a w hg hr hf => wp_region_lit (h κ I a w hg hr hf)

theorem AOps.nil (h : Q .normal fr H) : AOps P G ops [] fr H Q :=
  fun κ I a w hg hr hf => ⟨.normal, fr, H, κ, I, trivial, hr, hf, Stp.refl .., h⟩

def dstOk (o : Oper) (n : Nat) : Prop := ∀ d, o.dst = some d → d < n

/-- Is the operation carried out, as far as the frame tells? -/
def wantedA (ops : Array Oper) (fr : Fr) (o : Oper) (b : Bool) : Prop :=
  match o.guard with
  | none => b = true
  | some (j, want) => ∃ t, (ops[j]?).bind (·.dst) = some t ∧ t < fr.n ∧ ((∃ c, fr.get t = .bool c ∧ b = (c == want)) ∨ (fr.get t = .tuple [] ∧ b = false))

theorem wanted_run {I : Nat → Prop} {w : World} {κ : Kap} {a : Act} {b : Bool} (hf : FRel I w κ fr a) (h : wantedA ops fr o b) : Region.wanted o (yielded ops a.tmps) = b := by
  unfold wantedA at h
  unfold Region.wanted
  split at h
  · rename_i hg; rw [hg, h]
  · rename_i j want hg
    obtain ⟨t, h1, h3, h⟩ := h
    have hv := hf.get t
    have hlt : t < a.tmps.size := by rw [hf.size]; exact h3
    have hg2 : a.tmps.getD t undef = a.tmps[t] := by rw [Array.getD_eq_getD_getElem?, Array.getElem?_eq_getElem hlt]; rfl
    rcases h with ⟨c, h2, rfl⟩ | ⟨h2, rfl⟩
    · rw [h2] at hv
      have hc : a.tmps[t]? = some (.bool c) := by
        rw [hg2] at hv
        rw [Array.getElem?_eq_getElem hlt]
        generalize a.tmps[t] = v at hv
        cases hv
        rfl
      rw [hg]
      simp [yielded, h1, hc]
    · rw [h2] at hv
      have hc : ∃ us, a.tmps[t]? = some (.tuple us) := by
        rw [hg2] at hv
        rw [Array.getElem?_eq_getElem hlt]
        generalize a.tmps[t] = v at hv
        cases hv
        exact ⟨_, rfl⟩
      obtain ⟨us, hc⟩ := hc
      rw [hg]
      simp [yielded, h1, hc]

theorem VR.undef {I : Nat → Prop} {w : World} {κ : Kap} : VR I w κ (.tuple []) undef := .tuple (us := []) rfl (fun i x hx => by simp at hx)
theorem AOps.op {v : AV} {H' : AH} (hw : wantedA ops fr o true) (hd : dstOk o fr.n) (ho : OpOk P G o fr H v H') (h : AOps P G ops rest (fr.put o.dst v) H' Q) : AOps P G ops (o :: rest) fr H Q := by
  intro κ I a w hg hr hf
  obtain ⟨u, κ', I', w', h1, h2, h3, h4⟩ := ho κ I a w hg hr hf
  have hf' := (h4.frel hr hf).put hd h2
  have hn := wpList_mono (fun _ _ _ => APost.back h4) rest _ _ (h κ' I' (a.put o.dst u) w' (h4.grel hr hg) h3 hf')
  simp only [wpList]
  rw [if_pos (wanted_run hf hw)]
  left
  unfold Oper.wp
  rcases h1 with h1 | ⟨h1, rfl⟩
  · rw [h1]; exact hn
  · rw [h1]; exact hn

theorem AOps.skip (hw : wantedA ops fr o false) (hd : dstOk o fr.n) (h : AOps P G ops rest (fr.put o.dst (.tuple [])) H Q) : AOps P G ops (o :: rest) fr H Q := by
  intro κ I a w hg hr hf
  have hn := h κ I (a.put o.dst undef) w hg hr (hf.put hd VR.undef)
  simp only [wpList]
  rw [if_neg (by rw [wanted_run hf hw]; simp)]
  exact hn

/-- A guard that is not decided yet. -/
theorem AOps.guard {j t : Nat} {want c : Bool} (hg : o.guard = some (j, want)) (ht : (ops[j]?).bind (·.dst) = some t) (hn : t < fr.n) (hc : fr.get t = .bool c) (h1 : wantedA ops fr o true → (c == want) = true → AOps P G ops (o :: rest) fr H Q) (h2 : wantedA ops fr o false → (c == want) = false → AOps P G ops (o :: rest) fr H Q) :
    AOps P G ops (o :: rest) fr H Q := by
  have hw : wantedA ops fr o (c == want) := by
    unfold wantedA
    rw [hg]
    exact ⟨t, ht, hn, .inl ⟨c, hc, rfl⟩⟩
  cases hb : (c == want) with
  | true => exact h1 (hb ▸ hw) hb
  | false => exact h2 (hb ▸ hw) hb

/-- What follows behind a call. -/
def callQ (P : Program) (G : Glob) (ops : Array Oper) (rest : List Oper) (o : Oper) (fr : Fr) (Q : AQ) : AEnd → AH → Prop
  | .ret v, H => AOps P G ops rest (fr.put o.dst v) H Q
  | .panic v, H => Q (.panic v) fr H

theorem AOps.call {f : Operand} {args : Array Operand} {ts : Array TypeId} {g : FuncId} {first cap : List AV} {fn : Func} (hw : wantedA ops fr o true) (hd : dstOk o fr.n) (ho : o.op = .call { callee := .value f, args, argTypes := ts }) (hf' : aeval G fr f = .func (.func g) first cap)
    (hg' : P.funcs[g]? = some fn) (hb : fn.body.isNone = false) (hn : (fn.name == "runtime.NumGoroutine") = false) (h : ACalls P G g (first ++ args.toList.map (aeval G fr) ++ cap) H (callQ P G ops rest o fr Q)) : AOps P G ops (o :: rest) fr H Q := by
  intro κ I a w hg hr hf
  have hv := aeval_vr hg hf f
  rw [hf'] at hv
  generalize ha : a.eval f = v at hv
  cases hv with
  | @func _ _ _ _ us vs l1 l2 v1 v2 =>
  have hargs : VRs I w κ (first ++ args.toList.map (aeval G fr) ++ cap) (us ++ args.toList.map a.eval ++ vs) :=
    VRs.app (VRs.app ⟨l1, v1⟩ ⟨by simp, vrs_map hg hf _⟩) ⟨l2, v2⟩
  have hc := h κ I _ w hg hr hargs
  simp only [wpList]
  rw [if_pos (wanted_run hf hw)]
  left
  unfold Oper.wp
  have e : (execOp a.eval o).run P w = .ok (.enter g ⟨us ++ args.toList.map a.eval ++ vs⟩) w := by
    have em : args.map a.eval = ⟨args.toList.map a.eval⟩ := by apply Array.ext'; simp
    have ea : (⟨us⟩ : Array Value) ++ (⟨args.toList.map a.eval⟩ : Array Value) ++ (⟨vs⟩ : Array Value) = ⟨us ++ args.toList.map a.eval ++ vs⟩ := by apply Array.ext'; simp
    have hn' : ¬ fn.name = "runtime.NumGoroutine" := by simpa using hn
    have hb' : ¬ fn.body = none := fun hh => by rw [hh] at hb; cases hb
    simp [execOp, ho, resolve, Deferred.ofValue, ha, invoke, callFunc, hg', hn', hb', em]
  rw [e, Oper.upon_enter]
  refine hc.mono fun en w' hp => ?_
  obtain ⟨x, H', κ', I', h1, h2, h3, h4⟩ := hp
  cases x <;> cases en <;> simp only [EndRel] at h1 <;> simp only [callQ] at h4
  · exact wpList_mono (fun _ _ _ => APost.back h3) rest _ _ (h4 κ' I' _ w' (h3.grel hr hg) h2 ((h3.frel hr hf).put hd h1))
  · exact ⟨.panic _, fr, H', κ', I', h1, h2, h3.frel hr hf, h3, h4⟩

/-- A panic of the code's own. -/
theorem AOps.panic {x : Operand} (hw : wantedA ops fr o true) (ho : o.op = .panic x) (hx : aeval G fr x ≠ .nili) (hx' : ∃ t v, aeval G fr x = .iface t v) (h : Q (.panic (aeval G fr x)) fr H) : AOps P G ops (o :: rest) fr H Q := by
  intro κ I a w hg hr hf
  have hv := aeval_vr hg hf x
  simp only [wpList]
  rw [if_pos (wanted_run hf hw)]
  left
  unfold Oper.wp
  obtain ⟨t, v, he⟩ := hx'
  have e : (execOp a.eval o).run P w = .halt (.panic (a.eval x)) w := by
    rw [he] at hv
    generalize ha : a.eval x = u at hv
    cases hv
    simp [execOp, ho, ha, Instr.panic]
  rw [e, Oper.upon_panic]
  exact ⟨.panic (aeval G fr x), fr, H, κ, I, ⟨_, rfl, hv⟩, hr, hf, Stp.refl .., h⟩

/-- Ways part at a test. -/
theorem AWp.cond {c : Operand} {x y : Code} {b : Bool} (hb : aeval G fr c = .bool b) (ht : b = true → AWp P G x fr H Q) (hf : b = false → AWp P G y fr H Q) : AWp P G (.cond c x y) fr H Q := by
  intro κ I a w hg hr hfr
  have hv := aeval_vr hg hfr c
  rw [hb] at hv
  generalize ha : a.eval c = v at hv
  cases hv
  refine wp_cond_split ha (fun h => ht h κ I a w hg hr hfr) (fun h => hf h κ I a w hg hr hfr)
end

section
variable {P : Program} {G : Glob} {o : Oper} {fr : Fr} {H : AH}

/-! ### Conversions -/
theorem op_conv_int {t u : Nat} {x : Operand} (ho : o.op = .convert t u x) {i j : TI} (hi : TyIs P t i) (hj : TyIs P u j) {k' : IntKind} (hd : j.d = .int k') {k : IntKind} {n : Int} (hx : aeval G fr x = .int k n) : OpOk P G o fr H (.int k' (k'.wrap n)) H :=
  .here fun κ I a w hg hr hf => by
    have hv := aeval_vr hg hf x
    rw [hx] at hv
    generalize ha : a.eval x = v at hv
    cases hv
    obtain ⟨d, h1, _⟩ := hi.desc
    refine toV_int ?_
    simp [execOp, ho, ha, convert, run_underlying h1, run_underlying (hj.int hd), Conv.intToInt]
theorem op_conv_str {t u : Nat} {x : Operand} (ho : o.op = .convert t u x) {i j : TI} (hi : TyIs P t i) (hj : TyIs P u j) (hd : j.d = .str) {s : List UInt8} (hx : aeval G fr x = .str s) : OpOk P G o fr H (.str s) H :=
  .here fun κ I a w hg hr hf => by
    have hv := aeval_vr hg hf x
    rw [hx] at hv
    generalize ha : a.eval x = v at hv
    cases hv with
    | str hl =>
      obtain ⟨d, h1, _⟩ := hi.desc
      refine toV_str hl ?_
      have := run_underlying (P := P) (hj.str hd) w
      cases d <;> simp [execOp, ho, ha, convert, run_underlying h1, this]
theorem op_conv_rune {t u : Nat} {x : Operand} (ho : o.op = .convert t u x) {i j : TI} (hi : TyIs P t i) (hj : TyIs P u j) (hd : j.d = .str) {k : IntKind} {n : Int} (hx : aeval G fr x = .int k n) (hl : (Utf8.encode n).data.toList.length ≤ maxLen) : OpOk P G o fr H (.str (Utf8.encode n).data.toList) H :=
  .here fun κ I a w hg hr hf => by
    have hv := aeval_vr hg hf x
    rw [hx] at hv
    generalize ha : a.eval x = v at hv
    cases hv
    obtain ⟨d, h1, _⟩ := hi.desc
    refine toV_str hl ?_
    have := run_underlying (P := P) (hj.str hd) w
    cases d <;> simp [execOp, ho, ha, convert, run_underlying h1, this, Conv.intToString, ofL_self]

/-- The bytes of elements, each one number. -/
def bytesOf (ys : List (List AV)) : Option (List UInt8) :=
  match ys with
  | [] => some []
  | [.int .u8 n] :: r => (bytesOf r).map (UInt8.ofNat n.toNat :: ·)
  | _ => none

theorem bytesOf_map (s : List UInt8) : bytesOf (s.map fun b => [.int .u8 (b.toNat : Int)]) = some s := by
  induction s with
  | nil => rfl
  | cons b s ih => simp [bytesOf, ih]

theorem run_bytes {I : Nat → Prop} {w : World} {κ : Kap} {ys : List (List AV)} {y : Value} (hs : Src I w κ ys 1 y) {s : List UInt8} (hb : bytesOf ys = some s) : (Conv.bytesToString y).run P w = .ok (.string (ofL s)) w ∧ s.length = ys.length := by
  obtain ⟨news, n1, n2, n3, n4⟩ := hs
  have hlen : ∀ (ys : List (List AV)) (s : List UInt8), bytesOf ys = some s → s.length = ys.length := by
    intro ys
    induction ys with
    | nil => intro s h; simp [bytesOf] at h; subst h; rfl
    | cons y ys ih =>
      intro s h
      match y, h with
      | [.int .u8 n], h =>
        simp only [bytesOf] at h
        obtain ⟨r, hr, rfl⟩ := Option.map_eq_some_iff.1 h
        simp [ih r hr]
  refine ⟨?_, hlen ys s hb⟩
  -- the cells are those numbers
  have hnums : ∀ (ys : List (List AV)) (s : List UInt8) (news : List Value), bytesOf ys = some s → news.length = ys.length → (∀ j x, ys.flatten[j]? = some x → VR I w κ x (news.getD j undef)) → ∃ ns : List Int, news = ns.map (Value.int .u8) ∧ s = ns.map fun n => UInt8.ofNat n.toNat := by
    intro ys
    induction ys with
    | nil => intro s news h hl _; simp [bytesOf] at h; subst h; exact ⟨[], by simpa using hl, rfl⟩
    | cons y ys ih =>
      intro s news h hl hv
      match y, h with
      | [.int .u8 n], h =>
        simp only [bytesOf] at h
        obtain ⟨r, hr, rfl⟩ := Option.map_eq_some_iff.1 h
        cases news with
        | nil => cases hl
        | cons u news =>
          have h0 := hv 0 (.int .u8 n) (by simp)
          simp at h0
          cases h0
          obtain ⟨ns, e1, e2⟩ := ih r news hr (by simpa using hl) (fun j x hx => by
            have := hv (j + 1) x (by simpa using hx)
            simpa using this)
          exact ⟨n :: ns, by simp [e1], by simp [e2]⟩
  obtain ⟨ns, e1, e2⟩ := hnums ys s news hb (by simpa using n1) n2
  rcases n4 with ⟨ad, c, rfl, hcell⟩ | ⟨a, c, rfl, h0⟩
  · have hl : (loadCells ad news.length).run P w = .ok news.toArray w := run_loadCells_list w ad news hcell
    have hl' : (loadCells ad ys.length).run P w = .ok news.toArray w := by
      rw [← hl, n1, Nat.mul_one]
    have hfold : ∀ (g : Value → ByteArray → Sem (ForInStep ByteArray)), (∀ n r, g (.int .u8 n) r = pure (ForInStep.yield (r.push (UInt8.ofNat n.toNat)))) → ∀ (ns : List Int) (acc : List UInt8), (forIn (ns.map (Value.int .u8)) (ofL acc) g).run P w = .ok (ofL (acc ++ ns.map fun n => UInt8.ofNat n.toNat)) w := by
      intro g hg
      intro ns
      induction ns with
      | nil => intro acc; simp
      | cons n ns ih =>
        intro acc
        have ep : (ofL acc).push (UInt8.ofNat n.toNat) = ofL (acc ++ [UInt8.ofNat n.toNat]) := by
          show (⟨_⟩ : ByteArray) = _
          unfold ofL
          congr 1
          apply Array.ext'
          simp [ByteArray.push]
        simp only [List.map_cons, List.forIn_cons, Sem.run_bind, hg, Sem.run_pure, Result.andThen_ok, ep, ih]
        simp
    have ee : (ByteArray.empty : ByteArray) = ofL [] := rfl
    simp only [Conv.bytesToString, Sem.run_bind, hl', Result.andThen_ok]
    rw [List.forIn_toArray, e1, ee, hfold _ ?hg ns []]
    case hg => intro n r; rfl
    rw [List.nil_append, ← e2]
    rfl
  · subst h0
    have : s = [] := by simp [bytesOf] at hb; exact hb
    subst this
    have hl : ∀ ad, (loadCells ad 0).run P w = .ok #[] w := fun ad => by simp [loadCells, loadCellsFrom]
    cases a with
    | none => simp [Conv.bytesToString]; rfl
    | some ad =>
      simp [Conv.bytesToString, hl]
      rfl

theorem op_conv_bytes {t u e : Nat} {x : Operand} (ho : o.op = .convert t u x) {i j k : TI} (hi : TyIs P t i) (hd : i.d = .slice e) (hk : TyIs P e k) (hke : k.d = .int .u8) (hj : TyIs P u j) (hdj : j.d = .str)
    {ys : List (List AV)} (hy : elemsOf H 1 (aeval G fr x) = some ys) (hys : elemsSide H 1 (aeval G fr x)) {s : List UInt8} (hs : bytesOf ys = some s) (hl : s.length ≤ maxLen) : OpOk P G o fr H (.str s) H :=
  .here fun κ I a w hg hr hf => by
    have hsrc := src_of hr (aeval_vr hg hf x) hy hys
    obtain ⟨h1, h2⟩ := run_bytes (P := P) hsrc hs
    refine toV_str hl ?_
    generalize ha : a.eval x = v at hsrc h1
    have hform : ∃ ad n c, v = .slice ad n c := by
      obtain ⟨news, _, _, _, h | h⟩ := hsrc
      · obtain ⟨ad, c, h, _⟩ := h; exact ⟨_, _, _, h⟩
      · obtain ⟨ad, c, h, _⟩ := h; exact ⟨_, _, _, h⟩
    obtain ⟨ad, n, c, rfl⟩ := hform
    simp [execOp, ho, ha, convert, run_underlying (hi.slice hd), run_underlying (hj.str hdj), run_underlying (hk.int hke), h1]
end
end Go.Proofs.Ax
/- AX, part P: one operation, reckoned. -/
set_option linter.unusedVariables false
set_option linter.unusedSimpArgs false
namespace Go.Proofs.Ax
open Go.RowKit

/-- The types' table, and the flat structs that are compared. -/
structure Tab where
  T : TT
  E : List (Nat × List TD)
def Tab.ok (P : Program) (t : Tab) : Bool := t.T.ok P && t.E.all fun x => flatOk P x.1 x.2

abbrev Res := Option (Prop × AV × AH)

section
variable (T : Tab) (G : Glob) (fr : Fr) (H : AH)

def sLoad (t : Nat) (x : Operand) : Res :=
  match T.T.lookup t with
  | none => none
  | some i =>
    match aeval G fr x with
    | .ptr id k off st => match H[id]? with
      | some (.row _ sz elems) => some (st = elems.length ∧ k < elems.length ∧ off + i.size ≤ sz, rdV i.d.agg i.size (elems.getD k []) off, H)
      | _ => none
    | .lptr elems k off => some (k < elems.length ∧ off + i.size ≤ (elems.getD k []).length, rdV i.d.agg i.size (elems.getD k []) off, H)
    | _ => none
def sStore (t : Nat) (x y : Operand) : Res :=
  match T.T.lookup t with
  | none => none
  | some i =>
    match aeval G fr x with
    | .ptr id k off st => match H[id]? with
      | some (.row e sz elems) => some (st = elems.length ∧ k < elems.length ∧ (aeval G fr y).cells = true ∧ (cellsOf (aeval G fr y)).length = i.size ∧ off + i.size ≤ sz, .any, H.set id (.row e sz (elems.set k (splice (elems.getD k []) off (cellsOf (aeval G fr y))))))
      | _ => none
    | _ => none
def sFieldAddr (s : Nat) (x : Operand) (n : Nat) : Res :=
  match T.T.lookup s with
  | some { d := .struct fs, .. } => match fs[n]? with
    | some y => match aeval G fr x with
      | .ptr id k off st => some (True, .ptr id k (off + y.1) st, H)
      | .lptr elems k off => some (True, .lptr elems k (off + y.1), H)
      | _ => none
    | none => none
  | _ => none
def sField (s : Nat) (x : Operand) (n : Nat) : Res :=
  match T.T.lookup s with
  | some { d := .struct fs, .. } => match fs[n]? with
    | some y => match T.T.lookup y.2.1, aeval G fr x with
      | some j, .agg cs => some (y.1 + j.size ≤ cs.length, rdV j.d.agg j.size cs y.1, H)
      | _, _ => none
    | none => none
  | _ => none
def sIndexAddr (t : Nat) (x ix : Operand) : Res :=
  match T.T.lookup t, aeval G fr ix with
  | some { d := .slice e, .. }, .int _ n => match T.T.lookup e with
    | none => none
    | some j => match aeval G fr x with
      | .slice id st => match H[id]? with
        | some (.row _ sz elems) => some (sz = j.size ∧ st = elems.length ∧ 0 ≤ n ∧ n < elems.length, .ptr id n.toNat 0 st, H)
        | _ => none
      | .lit elems => some (0 ≤ n ∧ n < elems.length ∧ (elems.getD n.toNat []).length = j.size, .lptr elems n.toNat 0, H)
      | _ => none
  | some { d := .array m e, .. }, .int _ n => match T.T.lookup e with
    | none => none
    | some j => match aeval G fr x with
      | .ptr id kk off st => some (0 ≤ n ∧ n < m, .ptr id kk (off + n.toNat * j.size) st, H)
      | .lptr elems kk off => some (0 ≤ n ∧ n < m, .lptr elems kk (off + n.toNat * j.size), H)
      | _ => none
  | _, _ => none
def sIndex (t : Nat) (x ix : Operand) : Res :=
  match T.T.lookup t, aeval G fr ix with
  | some { d := .str, .. }, .int _ n => match aeval G fr x with
    | .str s => some (0 ≤ n ∧ n < s.length, .int .u8 ((s.getD n.toNat 0).toNat : Int), H)
    | _ => none
  | some { d := .array m e, .. }, .int _ n => match T.T.lookup e, aeval G fr x with
    | some j, .agg cs => some (0 ≤ n ∧ n < m ∧ n.toNat * j.size + j.size ≤ cs.length, rdV j.d.agg j.size cs (n.toNat * j.size), H)
    | _, _ => none
  | _, _ => none
def sSlice (t : Nat) (x : Operand) (lo hi : Option Operand) : Res :=
  match T.T.lookup t with
  | some { d := .str, .. } => match aeval G fr x with
    | .str s => match optI G fr lo 0, optI G fr hi s.length with
      | some l, some h => some (0 ≤ l ∧ l ≤ h ∧ h ≤ s.length, .str ((s.take h.toNat).drop l.toNat), H)
      | _, _ => none
    | _ => none
  | some { d := .slice e, .. } => match T.T.lookup e, aeval G fr x with
    | some j, .lit elems => match optI G fr lo 0, optI G fr hi elems.length with
      | some l, some h => some (0 ≤ l ∧ l ≤ h ∧ h ≤ elems.length ∧ ∀ e ∈ elems, e.length = j.size, .lit ((elems.take h.toNat).drop l.toNat), H)
      | _, _ => none
    | _, _ => none
  | _ => none
def lenOk (d : TD) (x : AV) : Bool :=
  match x with
  | .str _ => d == .str
  | .nilm => (match d with | .map .. => true | _ => false)
  | _ => (match d with | .slice _ => true | _ => false)
def sLen (t : Nat) (x : Operand) : Res :=
  match T.T.lookup t, alen (aeval G fr x) with
  | some i, some n => some (lenOk i.d (aeval G fr x) = true, .int .i64 n, H)
  | _, _ => none
def sBin (op : BinOp) (t : Nat) (x y : Operand) : Res :=
  match abin op (aeval G fr x) (aeval G fr y) with
  | some (p, v) => some (p, v, H)
  | none =>
    match op with
    | .eql | .neq =>
      match aeval G fr x, aeval G fr y with
      | .agg xs, .agg ys => match T.E.lookup t, aeqs xs ys with
        | some ds, some b => some (kindsOk ds xs = true, .bool (eqB op b), H)
        | _, _ => none
      | X, Y => match T.T.lookup t with
        | some i => match aeql i.d X Y with
          | some (p, b) => some (p, .bool (eqB op b), H)
          | none => none
        | none => none
    | _ => none
def sConv (t u : Nat) (x : Operand) : Res :=
  match T.T.lookup t, T.T.lookup u with
  | some i, some j =>
    match j.d, aeval G fr x with
    | .int k', .int _ n => some (True, .int k' (k'.wrap n), H)
    | .str, .str s => some (True, .str s, H)
    | .str, .int _ n => some ((Utf8.encode n).data.toList.length ≤ maxLen, .str (Utf8.encode n).data.toList, H)
    | .str, X => match i.d with
      | .slice e => match T.T.lookup e, elemsOf H 1 X with
        | some k, some ys => match bytesOf ys with
          | some s => some (k.d = .int .u8 ∧ elemsSide H 1 X ∧ s.length ≤ maxLen, .str s, H)
          | none => none
        | _, _ => none
      | _ => none
    | _, _ => none
  | _, _ => none
def sAppend (t t2 : Nat) (x y : Operand) : Res :=
  match T.T.lookup t with
  | some { d := .slice e, .. } => match T.T.lookup e with
    | none => none
    | some j => match elemsOf H j.size (aeval G fr y) with
      | none => none
      | some ys => match aeval G fr x with
        | .nils => some (t2 = t ∧ 0 < j.size ∧ 0 < j.bytes ∧ elemsSide H j.size (aeval G fr y) ∧ (∀ z ∈ ys, z.length = j.size) ∧ ys.length * j.bytes ≤ 140737488355328, .slice H.length ys.length, H ++ [.row e j.size ys])
        | .slice id st => match H[id]? with
          | some (.row e' sz elems) => some (t2 = t ∧ 0 < j.size ∧ 0 < j.bytes ∧ e' = e ∧ sz = j.size ∧ st = elems.length ∧ elemsSide H j.size (aeval G fr y) ∧ (∀ z ∈ ys, z.length = j.size) ∧ (elems.length + ys.length) * j.bytes ≤ 140737488355328,
              .slice id (elems.length + ys.length), H.set id (.row e' sz (elems ++ ys)))
          | _ => none
        | _ => none
  | _ => none
def sBuild (t : Nat) (parts : Array (Nat × Operand)) : Res :=
  match T.T.lookup t with
  | some i => match i.d with
    | .struct fs => match fillA (fun n => (fs[n]?).map fun x => (x.1, x.2.2)) (i.zero.map ZV.av) (parts.toList.map fun p => (p.1, aeval G fr p.2)) with
      | some r => some (True, .agg r, H)
      | none => none
    | _ => none
  | none => none
/-- A flat list of cells, cut into elements. -/
def cut (n sz : Nat) (l : List AV) : List (List AV) :=
  match n with
  | 0 => []
  | n + 1 => l.take sz :: cut n sz (l.drop sz)
def sBuildSlice (t n : Nat) (parts : Array (Nat × Operand)) : Res :=
  match T.T.lookup t with
  | some { d := .slice e, .. } => match T.T.lookup e with
    | some j => match fillA (fun k => some (k * j.size, j.size)) ((List.replicate n (j.zero.map ZV.av)).flatten) (parts.toList.map fun p => (p.1, aeval G fr p.2)) with
      | some r => some (n * j.size ≤ 16777216 ∧ n ≤ maxLen, .slice H.length n, H ++ [.row e j.size (cut n j.size r)])
      | none => none
    | none => none
  | _ => none
def sCheck (x : Operand) : Res :=
  match aeval G fr x with
  | .ptr a b c d => some (True, .ptr a b c d, H)
  | .lptr a b c => some (True, .lptr a b c, H)
  | .obj a => some (True, .obj a, H)
  | .func (.func f) a b => some (True, .func (.func f) a b, H)
  | _ => none

def sBuiltin (b : Builtin) (args : List Operand) (ts : List TypeId) : Res :=
  match b, args, ts with
  | .len, [x], [t] => sLen T G fr H t x
  | .append, [x, y], [t, t2] => sAppend T G fr H t t2 x y
  | _, _, _ => none

/-- One operation, in a frame and a heap: what is asked for, what it gives, the heap behind it. -/
def astep (o : Op) : Res :=
  match o with
  | .move x | .assign x => some (True, aeval G fr x, H)
  | .pick c x y => match aeval G fr c with
    | .bool b => some (True, apick b (aeval G fr x) (aeval G fr y), H)
    | _ => none
  | .alloc t => match T.T.lookup t with
    | some i => some (True, .ptr H.length 0 0 1, H ++ [.row t i.size [i.zero.map ZV.av]])
    | none => none
  | .box t x => some ((aeval G fr x).cells = true, .ptr H.length 0 0 1, H ++ [.row t (cellsOf (aeval G fr x)).length [cellsOf (aeval G fr x)]])
  | .load t x => sLoad T G fr H t x
  | .store t x y => sStore T G fr H t x y
  | .fieldAddr s x n => sFieldAddr T G fr H s x n
  | .field s x n => sField T G fr H s x n
  | .indexAddr t x ix => sIndexAddr T G fr H t x ix
  | .index t x ix => sIndex T G fr H t x ix
  | .slice t x lo hi none => sSlice T G fr H t x lo hi
  | .extract x n => match aeval G fr x with
    | .tuple vs => some (n < vs.length, vs.getD n .any, H)
    | _ => none
  | .nilCheck x => sCheck G fr H x
  | .makeInterface t x => match T.T.lookup t with
    | some i => some (i.d ≠ .iface, .iface t (aeval G fr x), H)
    | none => none
  | .makeFunc fn first cap => some (True, .func fn (first.toList.map (aeval G fr)) (cap.toList.map (aeval G fr)), H)
  | .unOp .not _ x => match aeval G fr x with
    | .bool b => some (True, .bool !b, H)
    | _ => none
  | .unOp .neg _ x => match aeval G fr x with
    | .int k n => some (True, .int k (k.wrap (0 - n)), H)
    | _ => none
  | .binOp op t x y _ => sBin T G fr H op t x y
  | .convert t u x => sConv T G fr H t u x
  | .build t parts => sBuild T G fr H t parts
  | .buildSlice t n parts => sBuildSlice T G fr H t n parts
  | .call c => match c.callee with
    | .builtin b => sBuiltin T G fr H b c.args.toList c.argTypes.toList
    | _ => none
  | _ => none
end

theorem cut_len (n sz : Nat) (l : List AV) : (cut n sz l).length = n := by
  induction n generalizing l with
  | zero => rfl
  | succ n ih => simp [cut, ih]
theorem cut_flat (n sz : Nat) (l : List AV) (h : l.length = n * sz) : (cut n sz l).flatten = l := by
  induction n generalizing l with
  | zero => simp at h; subst h; rfl
  | succ n ih =>
    have e : (n + 1) * sz = n * sz + sz := by rw [Nat.add_mul]; omega
    simp only [cut, List.flatten_cons]
    rw [ih (l.drop sz) (by simp; omega), List.take_append_drop]
theorem cut_each (n sz : Nat) (l : List AV) (h : l.length = n * sz) : ∀ x ∈ cut n sz l, x.length = sz := by
  induction n generalizing l with
  | zero => intro x hx; simp [cut] at hx
  | succ n ih =>
    have e : (n + 1) * sz = n * sz + sz := by rw [Nat.add_mul]; omega
    intro x hx
    simp only [cut, List.mem_cons] at hx
    rcases hx with rfl | hx
    · simp; omega
    · exact ih (l.drop sz) (by simp; omega) x hx

theorem fillA_len {place : Nat → Option (Nat × Nat)} : ∀ {parts : List (Nat × AV)} {cells r : List AV}, fillA place cells parts = some r → r.length = cells.length := by
  intro parts
  induction parts with
  | nil => intro cells r h; simp [fillA] at h; rw [h]
  | cons p parts ih =>
    intro cells r h
    obtain ⟨i, x⟩ := p
    simp only [fillA] at h
    split at h
    · cases h
    · split at h
      · rename_i hc
        rw [ih h]
        simp [splice]
        omega
      · cases h

section
variable {P : Program} {T : Tab} {G : Glob} {o : Oper} {fr : Fr} {H : AH}

theorem Tab.ty (hT : T.ok P = true) {t : Nat} {i : TI} (h : T.T.lookup t = some i) : TyIs P t i := by
  simp only [Tab.ok, Bool.and_eq_true] at hT
  exact TI.ok_spec (TT.ok_get hT.1 h)
theorem Tab.eq (hT : T.ok P = true) {t : Nat} {ds : List TD} (h : T.E.lookup t = some ds) : flatOk P t ds = true := by
  simp only [Tab.ok, Bool.and_eq_true] at hT
  have key : ∀ (l : List (Nat × List TD)), l.lookup t = some ds → (t, ds) ∈ l := by
    intro l
    induction l with
    | nil => intro h; cases h
    | cons p l ih =>
      intro h
      obtain ⟨j, y⟩ := p
      simp only [List.lookup] at h
      by_cases e : t = j
      · subst e
        simp only [beq_self_eq_true, Option.some.injEq] at h
        subst h
        exact List.mem_cons_self
      · have e' : (t == j) = false := by simpa using e
        rw [e'] at h
        exact List.mem_cons_of_mem _ (ih h)
  have := key _ h
  exact List.all_eq_true.1 hT.2 _ this

theorem astep_ok (hT : T.ok P = true) {p : Prop} {v : AV} {H' : AH} (h : astep T G fr H o.op = some (p, v, H')) (hp : p) : OpOk P G o fr H v H' := by
  generalize hop : o.op = op at h
  unfold astep at h
  split at h
  · cases h; exact op_move (.inl hop)
  · cases h; exact op_move (.inr hop)
  · split at h <;> cases h
    rename_i b hb
    exact op_pick hop hb
  · split at h <;> cases h
    rename_i i hi
    exact op_alloc hop (Tab.ty hT hi)
  · cases h; exact op_box hop hp rfl
  · unfold sLoad at h
    split at h <;> (try (cases h; done))
    rename_i i hi
    split at h <;> (try (cases h; done))
    · rename_i id k off st hx
      split at h <;> cases h
      rename_i e sz elems hB
      exact op_load_ptr hop (Tab.ty hT hi) hx hB hp.1 hp.2.1 hp.2.2
    · rename_i elems k off hx
      cases h
      exact op_load_lptr hop (Tab.ty hT hi) hx hp.1 hp.2
  · unfold sStore at h
    split at h <;> (try (cases h; done))
    rename_i i hi
    split at h <;> (try (cases h; done))
    rename_i id k off st hx
    split at h <;> cases h
    rename_i e sz elems hB
    exact op_store hop (Tab.ty hT hi) hx hB hp.1 hp.2.1 hp.2.2.1 hp.2.2.2.1 hp.2.2.2.2
  · unfold sFieldAddr at h
    split at h <;> (try (cases h; done))
    rename_i fs sz by_ ze hi
    split at h <;> (try (cases h; done))
    rename_i y hy
    split at h <;> cases h
    · rename_i hx; exact op_fieldAddr_ptr hop (Tab.ty hT hi) rfl hy hx
    · rename_i hx; exact op_fieldAddr_lptr hop (Tab.ty hT hi) rfl hy hx
  · unfold sField at h
    split at h <;> (try (cases h; done))
    rename_i fs sz by_ ze hi
    split at h <;> (try (cases h; done))
    rename_i y hy
    split at h <;> cases h
    rename_i hj hx
    exact op_field hop (Tab.ty hT hi) rfl hy (Tab.ty hT hj) hx hp
  · unfold sIndexAddr at h
    split at h <;> (try (cases h; done))
    · rename_i e sz by_ ze k n hi hn
      split at h <;> (try (cases h; done))
      rename_i j hj
      split at h <;> (try (cases h; done))
      · rename_i id st hx
        split at h <;> cases h
        rename_i e' sz' elems hB
        exact op_indexAddr_slice hop (Tab.ty hT hi) rfl (Tab.ty hT hj) hx hn hB hp.1 hp.2.1 hp.2.2.1 hp.2.2.2
      · rename_i elems hx
        cases h
        exact op_indexAddr_lit hop (Tab.ty hT hi) rfl (Tab.ty hT hj) hx hn hp.1 hp.2.1 hp.2.2
    · rename_i m e sz by_ ze k n hi hn
      split at h <;> (try (cases h; done))
      rename_i j hj
      split at h <;> cases h
      · rename_i hx; exact op_indexAddr_arr hop (Tab.ty hT hi) rfl (Tab.ty hT hj) hx hn hp.1 hp.2
      · rename_i hx; exact op_indexAddr_larr hop (Tab.ty hT hi) rfl (Tab.ty hT hj) hx hn hp.1 hp.2
  · unfold sIndex at h
    split at h <;> (try (cases h; done))
    · rename_i sz by_ ze k n hi hn
      split at h <;> cases h
      rename_i s hx
      exact op_index_str hop (Tab.ty hT hi) rfl hx hn hp.1 hp.2
    · rename_i m e sz by_ ze k n hi hn
      split at h <;> cases h
      rename_i hj hx
      exact op_index_arr hop (Tab.ty hT hi) rfl (Tab.ty hT hj) hx hn hp.1 hp.2.1 hp.2.2
  · unfold sSlice at h
    split at h <;> (try (cases h; done))
    · rename_i sz by_ ze hi
      split at h <;> (try (cases h; done))
      rename_i s hx
      split at h <;> cases h
      rename_i hl hh
      exact op_slice_str hop (Tab.ty hT hi) rfl hx hl hh hp.1 hp.2.1 hp.2.2
    · rename_i e sz by_ ze hi
      split at h <;> (try (cases h; done))
      rename_i hj hx
      split at h <;> cases h
      rename_i hl hh
      exact op_slice_lit hop (Tab.ty hT hi) rfl (Tab.ty hT hj) hx hl hh hp.1 hp.2.1 hp.2.2.1 hp.2.2.2
  · split at h <;> cases h
    rename_i vs hx
    exact op_extract hop hx hp
  · unfold sCheck at h
    split at h <;> cases h
    · rename_i hx; rw [← hx]; exact op_nilCheck hop (.inl ⟨_, _, _, _, hx⟩)
    · rename_i hx; rw [← hx]; exact op_nilCheck hop (.inr (.inl ⟨_, _, _, hx⟩))
    · rename_i hx; rw [← hx]; exact op_nilCheck hop (.inr (.inr (.inl ⟨_, hx⟩)))
    · rename_i hx; rw [← hx]; exact op_nilCheck hop (.inr (.inr (.inr ⟨_, _, _, hx⟩)))
  · split at h <;> cases h
    rename_i i hi
    exact op_makeInterface hop (Tab.ty hT hi) hp
  · cases h; exact op_makeFunc hop
  · split at h <;> cases h
    rename_i b hx
    exact op_not hop hx
  · split at h <;> cases h
    rename_i k n hx
    exact op_neg hop hx
  · unfold sBin at h
    split at h
    · rename_i q u hb
      cases h
      exact op_bin hop hb hp
    · split at h
      · split at h
        · rename_i hx hy
          split at h <;> cases h
          rename_i ds b hd hb
          exact op_eqs hop (.inl rfl) (Tab.eq hT hd) hx hy hp hb
        · split at h <;> (try (cases h; done))
          rename_i i hi
          split at h <;> cases h
          rename_i q b hb
          exact op_eql hop (.inl rfl) (Tab.ty hT hi) hb hp
      · split at h
        · rename_i hx hy
          split at h <;> cases h
          rename_i ds b hd hb
          exact op_eqs hop (.inr rfl) (Tab.eq hT hd) hx hy hp hb
        · split at h <;> (try (cases h; done))
          rename_i i hi
          split at h <;> cases h
          rename_i q b hb
          exact op_eql hop (.inr rfl) (Tab.ty hT hi) hb hp
      · cases h
  · unfold sConv at h
    split at h <;> (try (cases h; done))
    rename_i i j hi hj
    split at h <;> (try (cases h; done))
    · rename_i hd hx; cases h; exact op_conv_int hop (Tab.ty hT hi) (Tab.ty hT hj) hd hx
    · rename_i hd hx; cases h; exact op_conv_str hop (Tab.ty hT hi) (Tab.ty hT hj) hd hx
    · rename_i hd hx; cases h; exact op_conv_rune hop (Tab.ty hT hi) (Tab.ty hT hj) hd hx hp
    · split at h <;> (try (cases h; done))
      rename_i e hd
      split at h <;> (try (cases h; done))
      rename_i k ys hk hy
      split at h <;> cases h
      rename_i s hs
      exact op_conv_bytes hop (Tab.ty hT hi) hd (Tab.ty hT hk) hp.1 (Tab.ty hT hj) ‹j.d = TD.str› hy hp.2.1 hs hp.2.2
  · unfold sBuild at h
    split at h <;> (try (cases h; done))
    rename_i i hi
    split at h <;> (try (cases h; done))
    rename_i fs hd
    split at h <;> cases h
    rename_i r hr
    exact op_build hop (Tab.ty hT hi) hd hr
  · unfold sBuildSlice at h
    split at h <;> (try (cases h; done))
    rename_i e sz by_ ze hi
    split at h <;> (try (cases h; done))
    rename_i j hj
    split at h <;> cases h
    rename_i r hr
    have key : ∀ n : Nat, ((List.replicate n (j.zero.map ZV.av)).flatten).length = n * j.size := fun n => by simp [(Tab.ty hT hj).zlen]
    have hl := (fillA_len hr).trans (key _)
    exact op_buildSlice hop (Tab.ty hT hi) rfl (Tab.ty hT hj) hp.1 hp.2 hr (cut_flat _ _ _ hl) (cut_len _ _ _) (cut_each _ _ _ hl)
  · rename_i c
    split at h <;> (try (cases h; done))
    rename_i b hb
    unfold sBuiltin at h
    split at h <;> (try (cases h; done))
    · rename_i x t ha ht
      have hc : c = { callee := .builtin .len, args := #[x], argTypes := #[t] } := by
        obtain ⟨ce, as, ts⟩ := c
        simp only at hb ha ht
        subst hb
        congr 1
        · apply Array.ext'; exact ha
        · apply Array.ext'; exact ht
      subst hc
      unfold sLen at h
      split at h <;> cases h
      rename_i i n hi hn
      refine op_len hop (Tab.ty hT hi) hn ?_
      unfold lenOk at hp
      exact hp
    · rename_i x y t t2 ha ht
      have hc : c = { callee := .builtin .append, args := #[x, y], argTypes := #[t, t2] } := by
        obtain ⟨ce, as, ts⟩ := c
        simp only at hb ha ht
        subst hb
        congr 1
        · apply Array.ext'; exact ha
        · apply Array.ext'; exact ht
      subst hc
      unfold sAppend at h
      split at h <;> (try (cases h; done))
      rename_i e sz by_ ze hi
      split at h <;> (try (cases h; done))
      rename_i j hj
      split at h <;> (try (cases h; done))
      rename_i ys hy
      split at h <;> (try (cases h; done))
      · rename_i hx
        cases h
        obtain ⟨rfl, p1, p2, p3, p4, p5⟩ := hp
        exact op_append_nil hop (Tab.ty hT hi) rfl (Tab.ty hT hj) p1 p2 hx hy p3 p4 p5
      · rename_i id st hx
        split at h <;> cases h
        rename_i e' sz' elems hB
        obtain ⟨rfl, p1, p2, p3, p4, p5, p6, p7, p8⟩ := hp
        exact op_append_own hop (Tab.ty hT hi) rfl (Tab.ty hT hj) p1 p2 hx hB p3 p4 p5 hy p6 p7 p8
  · cases h
end
end Go.Proofs.Ax

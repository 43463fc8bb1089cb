import Derived.Test.YthdnbnombelfpaaGreatDoorAx1
import Derived.Laws.Strings
/- AX, part J: addresses, parts, building, slicing, lengths. -/
set_option linter.unusedVariables false
set_option linter.unusedSimpArgs false
namespace Go.Proofs.Ax
open Go.RowKit

section
variable {P : Program} {G : Glob} {o : Oper} {fr : Fr} {H : AH}

theorem fields_get {fields : List Field} {fs : List (Nat × Nat × Nat)} (h : fieldsOk P fields fs = true) : ∀ {n : Nat} {x : Nat × Nat × Nat}, fs[n]? = some x → ∃ f, fields[n]? = some f ∧ f.offset = x.1 ∧ f.type = x.2.1 ∧ (∃ i, P.info? f.type = some i ∧ i.size = x.2.2) ∧ f.name ≠ "_" ∧ x.2.2 ≠ 0 := by
  induction fields generalizing fs with
  | nil => intro n x hx; cases fs <;> simp [fieldsOk] at h; simp at hx
  | cons f fields ih =>
    intro n x hx
    cases fs with
    | nil => simp at hx
    | cons y fs =>
      simp only [fieldsOk, Bool.and_eq_true] at h
      cases n with
      | zero =>
        simp at hx
        subst hx
        obtain ⟨h1, _⟩ := h
        simp only [fieldOk, Bool.and_eq_true, beq_iff_eq, bne_iff_ne, ne_eq] at h1
        obtain ⟨⟨⟨⟨a1, a2⟩, a3⟩, a4⟩, a5⟩ := h1
        refine ⟨f, rfl, a1, a2, ?_, a4, a5⟩
        split at a3
        · rename_i i hi; exact ⟨i, hi, by simpa using a3⟩
        · cases a3
      | succ n => exact ih h.2 (by simpa using hx)

theorem TyIs.struct {t : Nat} {i : TI} (h : TyIs P t i) {fs : List (Nat × Nat × Nat)} (hd : i.d = .struct fs) : ∃ fields : Array Field, P.underlying t = some (.struct fields) ∧ fieldsOk P fields.toList fs = true := by
  obtain ⟨d, h1, h2⟩ := h.desc
  rw [hd] at h2
  cases d <;> simp [TD.ok] at h2
  exact ⟨_, h1, h2⟩
theorem TyIs.slice {t : Nat} {i : TI} (h : TyIs P t i) {e : Nat} (hd : i.d = .slice e) : P.underlying t = some (.slice e) := by
  obtain ⟨d, h1, h2⟩ := h.desc
  rw [hd] at h2
  cases d <;> simp [TD.ok] at h2
  rw [h1, h2]
theorem TyIs.array {t : Nat} {i : TI} (h : TyIs P t i) {n e : Nat} (hd : i.d = .array n e) : P.underlying t = some (.array n e) := by
  obtain ⟨d, h1, h2⟩ := h.desc
  rw [hd] at h2
  cases d <;> simp [TD.ok] at h2
  rw [h1, h2.1, h2.2]
theorem TyIs.str {t : Nat} {i : TI} (h : TyIs P t i) (hd : i.d = .str) : P.underlying t = some .string := by
  obtain ⟨d, h1, h2⟩ := h.desc
  rw [hd] at h2
  cases d <;> simp [TD.ok] at h2
  rw [h1]
theorem TyIs.int {t : Nat} {i : TI} (h : TyIs P t i) {k : IntKind} (hd : i.d = .int k) : P.underlying t = some (.int k) := by
  obtain ⟨d, h1, h2⟩ := h.desc
  rw [hd] at h2
  cases d <;> simp [TD.ok] at h2
  rw [h1, h2]

/-! ### Addresses -/
theorem run_fieldAt {s : Nat} {i : TI} (hi : TyIs P s i) {fs : List (Nat × Nat × Nat)} (hd : i.d = .struct fs) {n : Nat} {x : Nat × Nat × Nat} (hn : fs[n]? = some x) (ad : Addr) (w : World) :
    (Instr.fieldAt s (.pointer (some ad)) n).run P w = .ok (.pointer (some (ad.add x.1))) w := by
  obtain ⟨fields, h1, h2⟩ := hi.struct hd
  obtain ⟨f, h3, h4, h5, ⟨i', h6, h7⟩, h8, h9⟩ := fields_get h2 hn
  have h3' : fields[n]? = some f := by rw [← Array.getElem?_toList]; exact h3
  have hs : (sizeOf f.type).run P w = .ok x.2.2 w := by simp [sizeOf, typeInfo, h6, h7]
  simp [Instr.fieldAt, run_underlying h1, h3', Instr.sureAddr, fieldPlace, hs, h9, h4]

theorem op_fieldAddr_ptr {s n : Nat} {x : Operand} (ho : o.op = .fieldAddr s x n) {i : TI} (hi : TyIs P s i) {fs : List (Nat × Nat × Nat)} (hd : i.d = .struct fs) {y : Nat × Nat × Nat} (hn : fs[n]? = some y) {id k off st : Nat} (hx : aeval G fr x = .ptr id k off st) :
    OpOk P G o fr H (.ptr id k (off + y.1) st) H :=
  .here fun κ I a w hg hr hf => by
    have hv := aeval_vr hg hf x
    rw [hx] at hv
    generalize ha : a.eval x = v at hv
    cases hv with
    | ptr c hc hst hp h =>
      obtain ⟨ad, rfl⟩ := hp
      refine ⟨.pointer (some (ad.add y.1)), by simp [execOp, ho, ha, run_fieldAt hi hd hn], .ptr c hc hst ⟨_, rfl⟩ fun e => ?_⟩
      obtain ⟨b, m, cp, e1, e2⟩ := h e
      cases e2
      exact ⟨b, m, cp, e1, by rw [cell_add, Nat.add_assoc]⟩
theorem op_fieldAddr_lptr {s n : Nat} {x : Operand} (ho : o.op = .fieldAddr s x n) {i : TI} (hi : TyIs P s i) {fs : List (Nat × Nat × Nat)} (hd : i.d = .struct fs) {y : Nat × Nat × Nat} (hn : fs[n]? = some y) {elems : List (List AV)} {k off : Nat} (hx : aeval G fr x = .lptr elems k off) :
    OpOk P G o fr H (.lptr elems k (off + y.1)) H :=
  .here fun κ I a w hg hr hf => by
    have hv := aeval_vr hg hf x
    rw [hx] at hv
    generalize ha : a.eval x = v at hv
    cases hv with
    | lptr b ov sz us hb hsz hc h1 h =>
      refine ⟨_, by simp [execOp, ho, ha, run_fieldAt hi hd hn]; rfl, ?_⟩
      rw [cell_add, Nat.add_assoc, Nat.add_assoc]
      exact .lptr b ov sz us hb hsz hc h1 h

theorem op_indexAddr_slice {t : Nat} {x ix : Operand} (ho : o.op = .indexAddr t x ix) {i j : TI} (hi : TyIs P t i) {e : Nat} (hd : i.d = .slice e) (hj : TyIs P e j) {id st : Nat} (hx : aeval G fr x = .slice id st) {k : IntKind} {n : Int} (hn : aeval G fr ix = .int k n)
    {e' sz : Nat} {elems : List (List AV)} (hB : H[id]? = some (.row e' sz elems)) (hsz : sz = j.size) (hst : st = elems.length) (h0 : 0 ≤ n) (h1 : n < elems.length) : OpOk P G o fr H (.ptr id n.toNat 0 st) H :=
  .here fun κ I a w hg hr hf => by
    have hv := aeval_vr hg hf x
    have hw := aeval_vr hg hf ix
    rw [hx] at hv; rw [hn] at hw
    generalize ha : a.eval x = v at hv
    generalize hb : a.eval ix = u at hw
    cases hw
    obtain ⟨c, us, hc, q1, q2, ⟨q3, q4⟩, q5, q6, q7⟩ := hr.ok id _ hB
    cases hv with
    | slice c' hc' hst' hl h =>
      obtain rfl : c' = c := by rw [hc] at hc'; cases hc'; rfl
      have hh := h (by omega)
      rcases q4 with ⟨e3, e4⟩ | ⟨g, cap, cur, e3, e4, e5, e6, e7, e8, e9⟩
      · omega
      · rw [e3] at hh
        subst hh
        have hrun : (Instr.indexAt t (.slice (some ⟨g, 0, none⟩) elems.length cap) (.int k n)).run P w = .ok (.pointer (some ⟨g, n.toNat * j.size, none⟩)) w := by
          simp [Instr.indexAt, asIntOf, run_underlying (hi.slice hd), h0, h1, hj.run_size, cell_add]
        refine ⟨_, by simp [execOp, ho, ha, hb, hrun]; rfl, .ptr c' hc hst' ⟨_, rfl⟩ fun _ => ⟨g, _, cap, e3, by rw [q2, hsz]; rfl⟩⟩

theorem op_indexAddr_lit {t : Nat} {x ix : Operand} (ho : o.op = .indexAddr t x ix) {i j : TI} (hi : TyIs P t i) {e : Nat} (hd : i.d = .slice e) (hj : TyIs P e j) {elems : List (List AV)} (hx : aeval G fr x = .lit elems) {k : IntKind} {n : Int} (hn : aeval G fr ix = .int k n)
    (h0 : 0 ≤ n) (h1 : n < elems.length) (hsz : (elems.getD n.toNat []).length = j.size) : OpOk P G o fr H (.lptr elems n.toNat 0) H :=
  .here fun κ I a w hg hr hf => by
    have hv := aeval_vr hg hf x
    have hw := aeval_vr hg hf ix
    rw [hx] at hv; rw [hn] at hw
    generalize ha : a.eval x = v at hv
    generalize hb : a.eval ix = u at hw
    cases hw
    cases hv with
    | @lit _ _ ad cp sz us hcp hm hs hc h2 h =>
      have hne : elems ≠ [] := fun he => by subst he; simp at h1; omega
      obtain ⟨b, ov, rfl, hI, hcell⟩ := hc hne
      have hlt : n.toNat < elems.length := by omega
      have hs' : sz = j.size := by
        rw [← hsz]
        exact (hs _ (by simp [List.getD, List.getElem?_eq_getElem hlt])).symm
      have hrun : (Instr.indexAt t (.slice (some ⟨b, ov, none⟩) elems.length cp) (.int k n)).run P w = .ok (.pointer (some ⟨b, ov + (n.toNat * sz + 0), none⟩)) w := by
        simp [Instr.indexAt, asIntOf, run_underlying (hi.slice hd), h0, h1, hj.run_size, cell_add, hs']
      exact ⟨_, by simp [execOp, ho, ha, hb, hrun], .lptr b ov sz us hI hs hcell h2 h⟩

theorem op_indexAddr_arr {t : Nat} {x ix : Operand} (ho : o.op = .indexAddr t x ix) {i j : TI} (hi : TyIs P t i) {m e : Nat} (hd : i.d = .array m e) (hj : TyIs P e j) {id kk off st : Nat} (hx : aeval G fr x = .ptr id kk off st) {k : IntKind} {n : Int} (hn : aeval G fr ix = .int k n)
    (h0 : 0 ≤ n) (h1 : n < m) : OpOk P G o fr H (.ptr id kk (off + n.toNat * j.size) st) H :=
  .here fun κ I a w hg hr hf => by
    have hv := aeval_vr hg hf x
    have hw := aeval_vr hg hf ix
    rw [hx] at hv; rw [hn] at hw
    generalize ha : a.eval x = v at hv
    generalize hb : a.eval ix = u at hw
    cases hw
    cases hv with
    | ptr c hc hst hp h =>
      obtain ⟨ad, rfl⟩ := hp
      have hrun : (Instr.indexAt t (.pointer (some ad)) (.int k n)).run P w = .ok (.pointer (some (ad.add (n.toNat * j.size)))) w := by
        simp [Instr.indexAt, asIntOf, run_underlying (hi.array hd), Instr.sureAddr, h0, h1, hj.run_size]
      refine ⟨_, by simp [execOp, ho, ha, hb, hrun]; rfl, .ptr c hc hst ⟨_, rfl⟩ fun e => ?_⟩
      obtain ⟨b, mm, cp, e1, e2⟩ := h e
      cases e2
      exact ⟨b, mm, cp, e1, by rw [cell_add, Nat.add_assoc]⟩
theorem op_indexAddr_larr {t : Nat} {x ix : Operand} (ho : o.op = .indexAddr t x ix) {i j : TI} (hi : TyIs P t i) {m e : Nat} (hd : i.d = .array m e) (hj : TyIs P e j) {elems : List (List AV)} {kk off : Nat} (hx : aeval G fr x = .lptr elems kk off) {k : IntKind} {n : Int} (hn : aeval G fr ix = .int k n)
    (h0 : 0 ≤ n) (h1 : n < m) : OpOk P G o fr H (.lptr elems kk (off + n.toNat * j.size)) H :=
  .here fun κ I a w hg hr hf => by
    have hv := aeval_vr hg hf x
    have hw := aeval_vr hg hf ix
    rw [hx] at hv; rw [hn] at hw
    generalize ha : a.eval x = v at hv
    generalize hb : a.eval ix = u at hw
    cases hw
    cases hv with
    | lptr b ov sz us hI hs hcell h2 h =>
      have hrun : (Instr.indexAt t (.pointer (some ⟨b, ov + (kk * sz + off), none⟩)) (.int k n)).run P w = .ok (.pointer (some ⟨b, ov + (kk * sz + (off + n.toNat * j.size)), none⟩)) w := by
        simp [Instr.indexAt, asIntOf, run_underlying (hi.array hd), Instr.sureAddr, h0, h1, hj.run_size, cell_add, Nat.add_assoc]
      exact ⟨_, by simp [execOp, ho, ha, hb, hrun], .lptr b ov sz us hI hs hcell h2 h⟩

/-! ### Parts of values -/
theorem op_index_str {t : Nat} {x ix : Operand} (ho : o.op = .index t x ix) {i : TI} (hi : TyIs P t i) (hd : i.d = .str) {s : List UInt8} (hx : aeval G fr x = .str s) {k : IntKind} {n : Int} (hn : aeval G fr ix = .int k n) (h0 : 0 ≤ n) (h1 : n < s.length) :
    OpOk P G o fr H (.int .u8 ((s.getD n.toNat 0).toNat : Int)) H :=
  .here fun κ I a w hg hr hf => by
    have hv := aeval_vr hg hf x
    have hw := aeval_vr hg hf ix
    rw [hx] at hv; rw [hn] at hw
    generalize ha : a.eval x = v at hv
    generalize hb : a.eval ix = u at hw
    cases hw
    cases hv
    have hlt : n.toNat < s.length := by omega
    have hget : (ofL s)[n.toNat]? = some (s.getD n.toNat 0) := by
      have hlt' : n.toNat < (ofL s).size := hlt
      simp only [getElem?_pos (ofL s) n.toNat hlt', List.getD, List.getElem?_eq_getElem hlt, Option.getD_some]
      rfl
    refine ⟨_, ?_, .int⟩
    simp [execOp, ho, ha, hb, Instr.index, asIntOf, run_underlying (hi.str hd), h0, hget]

theorem part_vr {κ : Kap} {I : Nat → Prop} {w : World} {t : Nat} {i : TI} (hi : TyIs P t i) {cs : List AV} {us : List Value} (h1 : us.length = cs.length) (h : ∀ i x, cs[i]? = some x → VR I w κ x (us.getD i undef)) {off : Nat} (hl : off + i.size ≤ cs.length) :
    ∃ u, (part t ⟨us⟩ off).run P w = .ok u w ∧ VR I w κ (rdV i.d.agg i.size cs off) u := by
  cases ha : i.d.agg with
  | false =>
    have hs := hi.scalar ha
    have hlt : off < cs.length := by omega
    have hlt' : off < us.length := by omega
    refine ⟨us[off], ?_, ?_⟩
    · simp [part, hi.run_agg, ha, List.getElem?_eq_getElem hlt']
    · have := h off cs[off] (List.getElem?_eq_getElem hlt)
      simpa [rdV, List.getD, List.getElem?_eq_getElem hlt, List.getElem?_eq_getElem hlt'] using this
  | true =>
    refine ⟨.agg ⟨(us.drop off).take i.size⟩, ?_, ?_⟩
    · have : (⟨us⟩ : Array Value).extract off (off + i.size) = ⟨(us.drop off).take i.size⟩ := by
        apply Array.ext'
        simp [List.take_drop]
      simp [part, hi.run_agg, ha, hi.run_size, this]
    · simp only [rdV, if_true]
      refine .agg (by simp; omega) (fun j x hx => ?_)
      have hj : j < i.size := by
        have := (List.getElem?_eq_some_iff.1 hx).1
        simp at this
        omega
      rw [List.getElem?_take, if_pos hj, List.getElem?_drop] at hx
      have := h _ x hx
      rw [List.getD_eq_getElem?_getD] at this ⊢
      rwa [List.getElem?_take, if_pos hj, List.getElem?_drop]

theorem op_field {t n : Nat} {x : Operand} (ho : o.op = .field t x n) {i j : TI} (hi : TyIs P t i) {fs : List (Nat × Nat × Nat)} (hd : i.d = .struct fs) {y : Nat × Nat × Nat} (hn : fs[n]? = some y) (hj : TyIs P y.2.1 j) {cs : List AV} (hx : aeval G fr x = .agg cs) (hl : y.1 + j.size ≤ cs.length) :
    OpOk P G o fr H (rdV j.d.agg j.size cs y.1) H :=
  .here fun κ I a w hg hr hf => by
    have hv := aeval_vr hg hf x
    rw [hx] at hv
    generalize ha : a.eval x = v at hv
    cases hv with
    | @agg _ _ us h1 h =>
      obtain ⟨fields, q1, q2⟩ := hi.struct hd
      obtain ⟨f, h3, h4, h5, _, h8, h9⟩ := fields_get q2 hn
      have h3' : fields[n]? = some f := by rw [← Array.getElem?_toList]; exact h3
      rw [← h5] at hj
      obtain ⟨u, e1, e2⟩ := part_vr hj h1 h hl
      refine ⟨u, ?_, e2⟩
      simp [execOp, ho, ha, Instr.field, run_underlying q1, h3', asAgg, h4, e1]

theorem op_index_arr {t : Nat} {x ix : Operand} (ho : o.op = .index t x ix) {i j : TI} (hi : TyIs P t i) {m e : Nat} (hd : i.d = .array m e) (hj : TyIs P e j) {cs : List AV} (hx : aeval G fr x = .agg cs) {k : IntKind} {n : Int} (hn : aeval G fr ix = .int k n) (h0 : 0 ≤ n) (h1 : n < m) (hl : n.toNat * j.size + j.size ≤ cs.length) :
    OpOk P G o fr H (rdV j.d.agg j.size cs (n.toNat * j.size)) H :=
  .here fun κ I a w hg hr hf => by
    have hv := aeval_vr hg hf x
    have hw := aeval_vr hg hf ix
    rw [hx] at hv; rw [hn] at hw
    generalize ha : a.eval x = v at hv
    generalize hb : a.eval ix = u at hw
    cases hw
    cases hv with
    | @agg _ _ us h2 h =>
      obtain ⟨u, e1, e2⟩ := part_vr hj h2 h hl
      refine ⟨u, ?_, e2⟩
      simp [execOp, ho, ha, hb, Instr.index, asIntOf, run_underlying (hi.array hd), h0, h1, hj.run_size, e1]

theorem op_extract {n : Nat} {x : Operand} (ho : o.op = .extract x n) {vs : List AV} (hx : aeval G fr x = .tuple vs) (hn : n < vs.length) : OpOk P G o fr H (vs.getD n .any) H :=
  .here fun κ I a w hg hr hf => by
    have hv := aeval_vr hg hf x
    rw [hx] at hv
    generalize ha : a.eval x = v at hv
    cases hv with
    | @tuple _ _ us h1 h =>
      have hlt : n < us.length := by omega
      refine ⟨us[n], ?_, ?_⟩
      · simp [execOp, ho, ha, Instr.extract, List.getElem?_eq_getElem hlt]
      · have := h n vs[n] (List.getElem?_eq_getElem hn)
        simpa [List.getD, List.getElem?_eq_getElem hn, List.getElem?_eq_getElem hlt] using this

theorem op_nilCheck {x : Operand} (ho : o.op = .nilCheck x) (hx : (∃ id k off st, aeval G fr x = .ptr id k off st) ∨ (∃ e k off, aeval G fr x = .lptr e k off) ∨ (∃ id, aeval G fr x = .obj id) ∨ (∃ f a b, aeval G fr x = .func (.func f) a b)) : OpOk P G o fr H (aeval G fr x) H :=
  .here fun κ I a w hg hr hf => by
    have hv := aeval_vr hg hf x
    refine ⟨a.eval x, ?_, hv⟩
    generalize ha : a.eval x = v at hv
    rcases hx with ⟨id, k, off, st, hx⟩ | ⟨e, k, off, hx⟩ | ⟨id, hx⟩ | ⟨f, y, z, hx⟩ <;> rw [hx] at hv <;> cases hv
    · rename_i c hc hst hp h; obtain ⟨ad, rfl⟩ := hp; simp [execOp, ho, ha]
    · simp [execOp, ho, ha]
    · rename_i c hc hv h; rcases hv with ⟨r, rfl⟩ | ⟨ad, rfl⟩ <;> simp [execOp, ho, ha]
    · simp [execOp, ho, ha]

theorem op_makeInterface {t : Nat} {x : Operand} (ho : o.op = .makeInterface t x) {i : TI} (hi : TyIs P t i) (hd : i.d ≠ .iface) : OpOk P G o fr H (.iface t (aeval G fr x)) H :=
  .here fun κ I a w hg hr hf => by
    obtain ⟨d, h1, h2⟩ := hi.desc
    refine ⟨.iface t (a.eval x), ?_, .iface (aeval_vr hg hf x)⟩
    cases hk : i.d <;> rw [hk] at h2 <;> cases d <;> simp [TD.ok] at h2 <;> first | exact absurd hk hd | simp [execOp, ho, Instr.makeInterface, run_underlying h1]

theorem vrs_map {κ : Kap} {I : Nat → Prop} {w : World} {a : Act} (hg : GRel I w G) (hf : FRel I w κ fr a) (l : List Operand) : ∀ i x, (l.map (aeval G fr))[i]? = some x → VR I w κ x ((l.map a.eval).getD i undef) := by
  intro i x hx
  rw [List.getElem?_map] at hx
  obtain ⟨y, hy, rfl⟩ := Option.map_eq_some_iff.1 hx
  simp only [List.getD, List.getElem?_map, hy, Option.map_some, Option.getD_some]
  exact aeval_vr hg hf y

theorem op_makeFunc {fn : Fn} {first cap : Array Operand} (ho : o.op = .makeFunc fn first cap) : OpOk P G o fr H (.func fn (first.toList.map (aeval G fr)) (cap.toList.map (aeval G fr))) H :=
  .here fun κ I a w hg hr hf => by
    refine ⟨.func fn ⟨first.toList.map a.eval⟩ ⟨cap.toList.map a.eval⟩, ?_, .func (by simp) (by simp) (vrs_map hg hf _) (vrs_map hg hf _)⟩
    have e1 : first.map a.eval = ⟨first.toList.map a.eval⟩ := by apply Array.ext'; simp
    have e2 : cap.map a.eval = ⟨cap.toList.map a.eval⟩ := by apply Array.ext'; simp
    simp [execOp, ho, Instr.makeFunc, e1, e2]

theorem op_not {t : Nat} {x : Operand} (ho : o.op = .unOp .not t x) {b : Bool} (hx : aeval G fr x = .bool b) : OpOk P G o fr H (.bool !b) H :=
  .here fun κ I a w hg hr hf => by
    have hv := aeval_vr hg hf x
    rw [hx] at hv
    generalize ha : a.eval x = v at hv
    cases hv
    exact ⟨.bool !b, by simp [execOp, ho, ha, Op.unary], .bool⟩
theorem op_neg {t : Nat} {x : Operand} (ho : o.op = .unOp .neg t x) {k : IntKind} {n : Int} (hx : aeval G fr x = .int k n) : OpOk P G o fr H (.int k (k.wrap (0 - n))) H :=
  .here fun κ I a w hg hr hf => by
    have hv := aeval_vr hg hf x
    rw [hx] at hv
    generalize ha : a.eval x = v at hv
    cases hv
    exact ⟨.int k (k.wrap (0 - n)), by simp [execOp, ho, ha, Op.unary, Op.intArith], .int⟩
end
end Go.Proofs.Ax

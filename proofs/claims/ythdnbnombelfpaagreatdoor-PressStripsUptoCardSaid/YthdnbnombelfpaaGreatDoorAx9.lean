import Derived.Test.YthdnbnombelfpaaGreatDoorAx8
import Derived.Lib.ConvBytes
/- AX, part E3: further operations: build of an array, min and max, range over a string, a text's bytes, a new map. -/
set_option linter.unusedVariables false
set_option linter.unusedSimpArgs false
namespace Go.Proofs.Ax
open Go.RowKit

section
variable {P : Program} {G : Glob} {o : Oper} {fr : Fr} {H : AH}

theorem op_build_arr {t : Nat} {parts : Array (Nat × Operand)} (ho : o.op = .build t parts) {i j : TI} (hi : TyIs P t i) {n e : Nat} (hd : i.d = .array n e) (hj : TyIs P e j) {r : List AV}
    (hr : fillA (fun k => some (k * j.size, j.size)) (i.zero.map ZV.av) (parts.toList.map fun p => (p.1, aeval G fr p.2)) = some r) : OpOk P G o fr H (.agg r) H :=
  .here fun κ I a w hg hrr hf => by
    obtain ⟨jj, h1, h2, h3, z, h4, h5, h6, h7, h8⟩ := hi.info
    have q1 := hi.array hd
    have e : z.cells = ⟨i.zero.map ZV.val⟩ := by rw [← h5]
    obtain ⟨us', m1, m2, m3, m4, m5⟩ := fill_vr hg hf (fun k => some (k * j.size, j.size)) parts.toList (i.zero.map ZV.av) r ⟨i.zero.map ZV.val⟩ (by simp) (fun q x hx => by
        have := zero_vr (κ := κ) (I := I) (w := w) i.zero q x hx
        simpa [Array.getD_eq_getD_getElem?, List.getD] using this) (fun q u hu => by
        simp at hu
        obtain ⟨y, _, rfl⟩ := hu
        exact y.one) hr
    refine ⟨.agg us', ?_, .agg (us := us'.toList) (by simpa using m2) (fun q x hx => by have := m4 q x hx; simpa [Array.getD_eq_getD_getElem?, List.getD] using this)⟩
    have hmap : (parts.map fun p => (p.1, a.eval p.2)).toList = parts.toList.map fun p => (p.1, a.eval p.2) := by simp
    simp only [execOp, ho, Instr.build, zeroValue, typeInfo, Sem.run_bind, run_program, Result.andThen_ok, h1, h4, Sem.run_pure, run_underlying q1, hj.run_size, e, hmap, m1]

theorem vr_int {κ : Kap} {I : Nat → Prop} {w : World} {k : IntKind} {n : Int} {v : Value} (h : VR I w κ (.int k n) v) : v = .int k n := by cases h; rfl
theorem vr_str {κ : Kap} {I : Nat → Prop} {w : World} {s : List UInt8} {v : Value} (h : VR I w κ (.str s) v) : v = .string (ofL s) ∧ s.length ≤ maxLen := by cases h; exact ⟨rfl, by assumption⟩

theorem op_max {x y : Operand} {t u : Nat} (ho : o.op = .call { callee := .builtin .max, args := #[x, y], argTypes := #[t, u] }) {k : IntKind} {a b : Int} (hx : aeval G fr x = .int k a) (hy : aeval G fr y = .int k b) :
    OpOk P G o fr H (.int k (if b > a then b else a)) H :=
  .here fun κ I ac w hg hr hf => by
    have h1 := aeval_vr hg hf x
    have h2 := aeval_vr hg hf y
    rw [hx] at h1; rw [hy] at h2
    refine ⟨_, ?_, .int⟩
    simp [execOp, ho, resolve, invoke, builtin, Builtin.max_, vr_int h1, vr_int h2, Builtin.max2]
theorem op_min {x y : Operand} {t u : Nat} (ho : o.op = .call { callee := .builtin .min, args := #[x, y], argTypes := #[t, u] }) {k : IntKind} {a b : Int} (hx : aeval G fr x = .int k a) (hy : aeval G fr y = .int k b) :
    OpOk P G o fr H (.int k (if b < a then b else a)) H :=
  .here fun κ I ac w hg hr hf => by
    have h1 := aeval_vr hg hf x
    have h2 := aeval_vr hg hf y
    rw [hx] at h1; rw [hy] at h2
    refine ⟨_, ?_, .int⟩
    simp [execOp, ho, resolve, invoke, builtin, Builtin.min_, vr_int h1, vr_int h2, Builtin.min2]

/-- A new object that is no row. -/
theorem op_newObj {κ : Kap} {I : Nat → Prop} {w : World} (hr : HRel κ I H w) (ob : Obj) (B : AB) (hdr : Value) (hh : hblk hdr = some w.heap.size) (hv : (∃ r, hdr = .map (some r)) ∨ ∃ ad, hdr = .pointer (some ad))
    (hB : ∀ κ', Ext κ κ' → κ' H.length = some ⟨hdr, 0, 0⟩ → BOk I (w.alloc ob) κ' H.length B) :
    ∃ κ', HRel κ' I (H ++ [B]) (w.alloc ob) ∧ Stp κ I H w κ' I (H ++ [B]) (w.alloc ob) ∧ VR I (w.alloc ob) κ' (.obj H.length) hdr := by
  have hk : ∀ b, b < w.heap.size → (w.alloc ob).heap[b]? = w.heap[b]? := fun b hb => heap_alloc_old w _ b hb
  obtain ⟨h2, h3⟩ := hr.push (w' := w.alloc ob) (B := B) (c := ⟨hdr, 0, 0⟩) rfl rfl rfl (by simp) hk (by intro b hb; rw [hh] at hb; cases hb; exact Nat.le_refl _) (hB _ (Ext.upd_new _ hr.new_none) (upd_same _ _ _))
  exact ⟨_, h2, h3, .obj _ (upd_same _ _ _) hv fun _ => rfl⟩

theorem op_range_str {t : Nat} {x : Operand} (ho : o.op = .range t x) {i : TI} (hi : TyIs P t i) (hd : i.d = .str) {s : List UInt8} (hx : aeval G fr x = .str s) : OpOk P G o fr H (.obj H.length) (H ++ [.iterS s 0]) := by
  intro κ I a w hg hr hf
  have h1 := aeval_vr hg hf x
  rw [hx] at h1
  obtain ⟨e1, _⟩ := vr_str h1
  obtain ⟨κ', m1, m2, m3⟩ := op_newObj hr (.stringIter (ofL s) 0) (.iterS s 0) (.pointer (some ⟨w.heap.size, 0, none⟩)) rfl (.inr ⟨_, rfl⟩) fun κ' _ hk => ⟨_, w.heap.size, hk, rfl, rfl, heap_alloc_new w _⟩
  refine ⟨_, κ', I, _, .inl ?_, m3, m1, m2⟩
  simp [execOp, ho, Instr.range, run_underlying (hi.str hd), e1]

theorem op_makeMap {t : Nat} (ho : o.op = .makeMap t none) : OpOk P G o fr H (.obj H.length) (H ++ [.map [] 0]) := by
  intro κ I a w hg hr hf
  obtain ⟨κ', m1, m2, m3⟩ := op_newObj hr (.map #[] 0) (.map [] 0) (.map (some w.heap.size)) rfl (.inl ⟨_, rfl⟩) fun κ' _ hk => ⟨_, w.heap.size, #[], hk, rfl, rfl, heap_alloc_new w _, rfl, fun i k v b h => by simp at h⟩
  refine ⟨_, κ', I, _, .inl ?_, m3, m1, m2⟩
  simp [execOp, ho, Instr.makeMap]

theorem ofL_get! (s : List UInt8) (i : Nat) : (ofL s).get! i = s.getD i 0 := by
  show (ofL s).data[i]! = _
  by_cases h : i < s.length
  · rw [getElem!_pos (ofL s).data i h]
    simp [ofL, List.getD, h]
  · rw [getElem!_neg (ofL s).data i h]
    simp [List.getD, h]
    rfl
theorem nth_eq {α : Type} : ∀ (l : List α) (n : Nat), nth l n = l[n]?
  | [], n => by simp [nth]
  | x :: l, 0 => by simp [nth]
  | x :: l, n + 1 => by simp [nth, nth_eq l n]
theorem atL_drop (s : List UInt8) (i k : Nat) : atL (s.drop i) k = (s.getD (i + k) 0).toNat := by
  unfold atL
  rw [nth_eq, List.getElem?_drop]
  simp only [List.getD]
  cases s[i + k]? <;> rfl
theorem contL_drop (s : List UInt8) (i k : Nat) : contL (s.drop i) k = (decide (i + k < (ofL s).size) && (s.getD (i + k) 0).toNat / 64 == 2) := by
  unfold contL
  rw [nth_eq, List.getElem?_drop]
  rw [ofL_size]
  by_cases h : i + k < s.length
  · simp [List.getD, List.getElem?_eq_getElem h, h]
    cases hb : Nat.beq (s[i + k].toNat / 64) 2 with
    | true => have := Nat.eq_of_beq_eq_true hb; simp [this]
    | false => have := Nat.ne_of_beq_eq_false hb; simp [this]
  · simp [List.getD, List.getElem?_eq_none (Nat.le_of_not_lt h), h]
theorem beq_nat (a b : Nat) : Nat.beq a b = (a == b) := by
  cases h : Nat.beq a b with
  | true => have := Nat.eq_of_beq_eq_true h; simp [this]
  | false => have := Nat.ne_of_beq_eq_false h; simp [this]
theorem decode_ofL (s : List UInt8) (i : Nat) : Utf8.decode (ofL s) i = decodeL (s.drop i) := by
  unfold Utf8.decode decodeL
  simp only [ofL_get!, atL_drop, contL_drop, beq_nat, cond_eq_ite, Nat.blt_eq, Nat.ble_eq, Bool.and_eq_true, beq_iff_eq, decide_eq_true_eq, Nat.add_zero, ge_iff_le, and_assoc, Int.ofNat_eq_natCast]
theorem op_next_str {x : Operand} (ho : o.op = .next x true) {id : Nat} {s : List UInt8} {pos : Nat} (hx : aeval G fr x = .obj id) (hB : H[id]? = some (.iterS s pos)) (hp : pos < s.length) :
    OpOk P G o fr H (.tuple [.bool true, .int .i64 pos, .int .i32 (decodeL (s.drop pos)).1]) (H.set id (.iterS s (pos + (decodeL (s.drop pos)).2))) := by
  intro κ I a w hg hr hf
  have h1 := aeval_vr hg hf x
  rw [hx] at h1
  obtain ⟨c, r, hc, h2, h3, h4⟩ := hr.ok id _ hB
  have e1 : a.eval x = .pointer (some ⟨r, 0, none⟩) := by
    generalize a.eval x = v at h1
    cases h1
    rename_i c' hc' hv h
    rw [hc] at hc'; cases hc'
    rw [h h2, h3]
  have hlt := (Array.getElem?_eq_some_iff.1 h4).1
  let w' : World := { w with heap := w.heap.setIfInBounds r (.stringIter (ofL s) (pos + (decodeL (s.drop pos)).2)) }
  have hk : ∀ b, b < w.heap.size → hblk c.hdr ≠ some b → w'.heap[b]? = w.heap[b]? := by
    intro b hb hne
    rw [h3] at hne
    have : r ≠ b := fun e => hne (by rw [e]; rfl)
    simp [w', Array.getElem?_setIfInBounds_ne this]
  have hn : w'.heap[r]? = some (.stringIter (ofL s) (pos + (decodeL (s.drop pos)).2)) := by simp [w', Array.getElem?_setIfInBounds, hlt]
  obtain ⟨m1, m2⟩ := hr.write (B := .iterS s (pos + (decodeL (s.drop pos)).2)) (c := c) (w' := w') hB rfl hc rfl rfl rfl (by simp [w']) hk (Nat.le_refl _) (fun _ => rfl) (fun b hb => .inr hb)
    ⟨c, r, upd_same _ _ _, h2, h3, hn⟩
  refine ⟨.tuple #[.bool true, goInt pos, .int .i32 (decodeL (s.drop pos)).1], _, I, w', .inl ?_, ?_, m1, m2⟩
  · simp only [execOp, ho, Instr.next, e1, Sem.run_bind]
    have hgo : (getObj r).run P w = .ok (.stringIter (ofL s) pos) w := by simp [getObj, Sem.run, h4]
    have hset : ∀ ob, (setObj r ob).run P w = .ok () { w with heap := w.heap.setIfInBounds r ob } := by intro ob; simp [setObj, Sem.run, h4]
    simp only [hgo, Result.andThen_ok, ofL_size, hp, if_true, decode_ofL, Sem.run_bind, hset, Sem.run_pure, w']
  · refine .tuple (us := [.bool true, goInt pos, .int .i32 (decodeL (s.drop pos)).1]) rfl fun i y hy => ?_
    match i, hy with
    | 0, hy => cases hy; exact .bool
    | 1, hy => cases hy; exact .int
    | 2, hy => cases hy; exact .int
theorem op_next_over {x : Operand} (ho : o.op = .next x true) {id : Nat} {s : List UInt8} {pos : Nat} (hx : aeval G fr x = .obj id) (hB : H[id]? = some (.iterS s pos)) (hp : ¬ pos < s.length) :
    OpOk P G o fr H (.tuple [.bool false]) H :=
  .here fun κ I a w hg hr hf => by
    have h1 := aeval_vr hg hf x
    rw [hx] at h1
    obtain ⟨c, r, hc, h2, h3, h4⟩ := hr.ok id _ hB
    have e1 : a.eval x = .pointer (some ⟨r, 0, none⟩) := by
      generalize a.eval x = v at h1
      cases h1
      rename_i c' hc' hv h
      rw [hc] at hc'; cases hc'
      rw [h h2, h3]
    have hgo : (getObj r).run P w = .ok (.stringIter (ofL s) pos) w := by simp [getObj, Sem.run, h4]
    refine ⟨.tuple #[.bool false], ?_, .tuple (us := [.bool false]) rfl fun i y hy => ?_⟩
    · simp only [execOp, ho, Instr.next, e1, Sem.run_bind, hgo, Result.andThen_ok, ofL_size, hp, if_false, Sem.run_pure]
    · match i, hy with
      | 0, hy => cases hy; exact .bool

/-- New memory that nobody writes to. -/
theorem HRel.immNew {κ : Kap} {I : Nat → Prop} {w w' : World} (h : HRel κ I H w) (ho : w'.os = w.os) (ht : w'.tape = w.tape) (hp : w'.output = w.output) (hs : w'.heap.size = w.heap.size + 1)
    (hk : ∀ b, b < w.heap.size → w'.heap[b]? = w.heap[b]?) : HRel κ (fun b => I b ∨ b = w.heap.size) H w' ∧ Stp κ I H w κ (fun b => I b ∨ b = w.heap.size) H w' := by
  obtain ⟨hg, hst⟩ := h.grow ho ht hp (by omega) hk
  have hI : ∀ b, I b → w'.heap[b]? = w.heap[b]? := fun b hb => hk b (h.sep b hb).1
  refine ⟨⟨h.dom, fun id B hB => ?_, h.inj, fun b hb => ?_⟩, ⟨ho, ht, hp, by omega, fun _ x => .inl x, fun b hb _ => hk b hb, fun b x => ?_, fun _ x => .inl x, Ext.refl _⟩⟩
  · by_cases hl : B.live = true
    · exact (h.ok id B hB).mono rfl (fun c b hc hb => hk b ((h.ok id B hB).lt hl hc hb)) (fun _ x => .inl x) hI (Ext.refl _)
    · cases B <;> first | trivial | (simp [AB.live] at hl)
  · rcases hb with hb | rfl
    · exact ⟨by have := (h.sep b hb).1; omega, (h.sep b hb).2⟩
    · exact ⟨by omega, fun ho' => by have := h.own_lt ho'; omega⟩
  · rcases x with x | rfl
    · exact .inl x
    · exact .inr (.inl (Nat.le_refl _))

def bytesA (s : List UInt8) : List (List AV) := s.map fun c => [.int .u8 (.ofNat c.toNat)]
theorem op_conv_tobytes {t u e : Nat} {x : Operand} (ho : o.op = .convert t u x) {i j k : TI} (hi : TyIs P t i) (hdi : i.d = .str) (hj : TyIs P u j) (hd : j.d = .slice e) (hk : TyIs P e k) (hke : k.d = .int .u8)
    {s : List UInt8} (hx : aeval G fr x = .str s) : OpOk P G o fr H (.lit (bytesA s)) H := by
  intro κ I a w hg hr hf
  have h1 := aeval_vr hg hf x
  rw [hx] at h1
  obtain ⟨e1, hm⟩ := vr_str h1
  have hrun := Lib.run_convert_string_bytes (P := P) w t u e (ofL s) (hi.str hdi) (hj.slice hd) (hk.int hke)
  obtain ⟨m1, m2⟩ := hr.immNew (w' := Lib.bytesWorld w e (ofL s)) rfl rfl rfl (Lib.bytesWorld_size w e _) fun b hb => Lib.bytesWorld_at_old w e _ b hb
  refine ⟨.slice (some ⟨w.heap.size, 0, none⟩) (ofL s).size (grownCap w (ofL s).size 0 e), κ, _, _, .inl ?_, ?_, m1, m2⟩
  · show (execOp a.eval o).run P w = .ok (.value (.slice (some ⟨w.heap.size, 0, none⟩) (ofL s).size (grownCap w (ofL s).size 0 e))) _
    simp only [execOp, ho, e1, Sem.run_bind, hrun, Result.andThen_ok, Sem.run_pure]
  · have hl : (bytesA s).length = s.length := by simp [bytesA]
    have hfl : (bytesA s).flatten = s.map fun c => AV.int .u8 (.ofNat c.toNat) := by
      unfold bytesA
      clear hl hrun m1 m2 hm e1 h1 hx
      induction s with
      | nil => rfl
      | cons c s ih => simpa using ih
    have := VR.lit (I := fun b => I b ∨ b = w.heap.size) (w := Lib.bytesWorld w e (ofL s)) (κ := κ) (elems := bytesA s) (a := some ⟨w.heap.size, 0, none⟩) (cp := grownCap w (ofL s).size 0 e) 1
      (fun q => .int .u8 ((s.getD q 0).toNat : Int)) (by rw [hl]; exact grownCap_ge w s.length 0 e) (by rw [hl]; exact hm) (by intro y hy; simp [bytesA] at hy; obtain ⟨c, _, rfl⟩ := hy; rfl)
      (fun _ => ⟨w.heap.size, 0, rfl, .inr rfl, fun q hq => by
        rw [Nat.zero_add]
        exact Lib.bytesWorld_cell w e (ofL s) q (by rw [hl] at hq; simpa [ofL_size] using hq)⟩) (fun _ _ => rfl) (fun q y hy => by
        rw [hfl, List.getElem?_map] at hy
        obtain ⟨c, hc, rfl⟩ := Option.map_eq_some_iff.1 hy
        simp only [List.getD, hc, Option.getD_some]
        exact .int)
    rw [hl] at this
    exact this
end
end Go.Proofs.Ax

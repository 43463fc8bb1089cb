import Derived.Test.YthdnbnombelfpaaGreatDoorAx5
import Derived.Test.YthdnbnombelfpaaGreatDoorAx4
import Derived.Lib.Builder
import Derived.Lib.UnsafeStr
import Derived.Laws.Externs
/- AX, part O3: Builder's operations. -/
set_option linter.unusedVariables false
set_option linter.unusedSimpArgs false
namespace Go.Proofs.Ax
open Go.RowKit

section
variable {P : Program} {G : Glob} {o : Oper} {fr : Fr} {H : AH}

/-- Any operation that appends elements to a row of the call's own. -/
theorem append_core_own {x : Operand} {id st e' sz : Nat} {elems ys : List (List AV)} (hx : aeval G fr x = .slice id st) (hB : H[id]? = some (.row e' sz elems)) (hst : st = elems.length) (hl : ∀ z ∈ ys, z.length = sz)
    (hrun : ∀ κ I a w, HRel κ I H w → FRel I w κ fr a → GRel I w G → ∀ v us, w.ownsRow 0 e' sz v elems.length us → a.eval x = v → ∃ v' w' news, (execOp a.eval o).run P w = .ok (.value v') w' ∧ w'.ownsRow 0 e' sz v' (elems.length + ys.length) (us ++ news) ∧ w.grownBy w' v.ownBlock ∧
      (∀ q x, ys.flatten[q]? = some x → VR I w κ x (news.getD q undef)) ∧ (∀ u ∈ news, u.oneCell' = true) ∧ news.length = ys.length * sz ∧ (∀ b, hblk v' = some b → w.heap.size ≤ b ∨ hblk v = some b) ∧ (ys = [] → v' = v)) :
    OpOk P G o fr H (.slice id (elems.length + ys.length)) (H.set id (.row e' sz (elems ++ ys))) := by
  intro κ I a w hg hr hf
  have hv := aeval_vr hg hf x
  rw [hx] at hv
  have hok := hr.ok id _ hB
  obtain ⟨c, us, hc, q1, q2, q3, q5, q6, q7⟩ := hok
  generalize ha : a.eval x = v at hv
  cases hv with
  | slice c' hc' hst' hl' hh =>
    obtain rfl : c' = c := by rw [hc] at hc'; cases hc'; rfl
    have hv' := hh (by omega)
    subst hv'
    obtain ⟨v', w', news, r1, r2, r3, r4, r5, r6, r7, r8⟩ := hrun κ I a w hr hf hg c'.hdr us q3 ha
    have hkeep : ∀ b, b < w.heap.size → hblk c'.hdr ≠ some b → w'.heap[b]? = w.heap[b]? := fun b hb hne => by
      refine r3.block b hb fun ee => hne ?_
      generalize c'.hdr = hd' at ee ⊢
      cases hd' <;> first | (cases ee; done) | skip
      rename_i a2 n2 c2
      cases a2 with
      | none => cases ee
      | some a2 => exact ee.symm
    have hxx : Ext κ (upd κ id ⟨v', elems.length + ys.length, c'.sz⟩) := by
      intro q z hz
      by_cases ee : q = id
      · subst ee
        rw [hc] at hz; cases hz
        refine ⟨_, upd_same _ _ _, by simp only; omega, fun h9 => ?_⟩
        simp only at h9
        have h0 : ys = [] := List.eq_nil_of_length_eq_zero (by omega)
        rw [r8 h0, h0]
        cases c'
        simp only at q1 ⊢
        simp [q1]
      · exact ⟨z, by rw [upd_ne _ _ ee]; exact hz, Nat.le_refl _, fun _ => rfl⟩
    have hImm : ∀ b, I b → w'.heap[b]? = w.heap[b]? := fun b hb => hkeep b (hr.sep b hb).1 fun ee => (hr.sep b hb).2 ⟨id, _, c', hB, rfl, hc, ee⟩
    have hBk : BOk I w' (upd κ id ⟨v', elems.length + ys.length, c'.sz⟩) id (.row e' sz (elems ++ ys)) := by
      refine ⟨_, us ++ news, upd_same _ _ _, by simp, q2, by simpa using r2, fun el hel => ?_, fun u hu => ?_, fun q z hz => ?_⟩
      · rcases List.mem_append.1 hel with h9 | h9
        · exact q5 el h9
        · exact hl el h9
      · rcases List.mem_append.1 hu with h9 | h9
        · exact q6 u h9
        · exact r5 u h9
      · rw [List.flatten_append] at hz
        have hfl : elems.flatten.length = us.length := by rw [flat_len q5, q3.1]
        by_cases hq : q < elems.flatten.length
        · rw [List.getElem?_append_left hq] at hz
          have h9 := (q7 q z hz).mono (fun _ h => h) hImm hxx
          rw [List.getD_eq_getElem?_getD, List.getElem?_append_left (by omega), ← List.getD_eq_getElem?_getD]
          exact h9
        · rw [List.getElem?_append_right (by omega)] at hz
          have h9 := (r4 _ z hz).mono (fun _ h => h) hImm hxx
          rw [List.getD_eq_getElem?_getD, List.getElem?_append_right (by omega), ← List.getD_eq_getElem?_getD, ← hfl]
          exact h9
    obtain ⟨m1, m2⟩ := hr.write (w' := w') (c := ⟨v', elems.length + ys.length, c'.sz⟩) hB rfl hc r3.os r3.tape r3.output r3.size hkeep (by simp only; omega) (fun h9 => by
      simp only at h9
      have h0 : ys = [] := List.eq_nil_of_length_eq_zero (by omega)
      rw [r8 h0, h0]
      cases c'
      simp only at q1 ⊢
      simp [q1]) r7 hBk
    refine ⟨v', _, I, w', .inl ?_, .slice _ (upd_same _ _ _) (Nat.le_refl _) ?_ (fun _ => rfl), m1, m2⟩
    · exact r1
    · rcases r2.2 with ⟨e1, e2⟩ | ⟨g, cap, cur, e1, _⟩
      · exact ⟨_, _, by rw [e1, e2]⟩
      · exact ⟨_, _, e1⟩

/-- Any operation that makes a row of the call's own out of nil. -/
theorem append_core_nil {x : Operand} {e sz : Nat} {ys : List (List AV)} (hx : aeval G fr x = .nils) (hl : ∀ z ∈ ys, z.length = sz)
    (hrun : ∀ κ I a w, HRel κ I H w → FRel I w κ fr a → GRel I w G → a.eval x = .slice none 0 0 → ∃ v' w' news, (execOp a.eval o).run P w = .ok (.value v') w' ∧ w'.ownsRow 0 e sz v' ys.length news ∧ w.grownBy w' (Value.ownBlock (.slice none 0 0)) ∧
      (∀ q x, ys.flatten[q]? = some x → VR I w κ x (news.getD q undef)) ∧ (∀ u ∈ news, u.oneCell' = true) ∧ news.length = ys.length * sz ∧ (∀ b, hblk v' = some b → w.heap.size ≤ b ∨ hblk (.slice none 0 0) = some b) ∧ (ys = [] → v' = .slice none 0 0)) :
    OpOk P G o fr H (.slice H.length ys.length) (H ++ [.row e sz ys]) := by
  intro κ I a w hg hr hf
  have hv := aeval_vr hg hf x
  rw [hx] at hv
  generalize ha : a.eval x = v at hv
  cases hv
  obtain ⟨v', w', news, r1, r2, r3, r4, r5, r6, r7, r8⟩ := hrun κ I a w hr hf hg ha
  have hkeep : ∀ b, b < w.heap.size → w'.heap[b]? = w.heap[b]? := fun b hb => r3.block b hb (by simp [Value.ownBlock])
  have hxx : Ext κ (upd κ H.length ⟨v', ys.length, sz⟩) := Ext.upd_new _ hr.new_none
  obtain ⟨m1, m2⟩ := hr.push (w' := w') (B := .row e sz ys) (c := ⟨v', ys.length, sz⟩) r3.os r3.tape r3.output r3.size hkeep (fun b hb => by
      rcases r7 b hb with h9 | h9
      · exact h9
      · cases h9)
    ⟨_, news, upd_same _ _ _, rfl, rfl, r2, hl, r5, fun q z hz => (r4 q z hz).mono (fun _ h => h) (fun b hb => hkeep b (hr.sep b hb).1) hxx⟩
  refine ⟨v', _, I, w', .inl ?_, .slice _ (upd_same _ _ _) (Nat.le_refl _) ?_ (fun _ => rfl), m1, m2⟩
  · exact r1
  · rcases r2.2 with ⟨e1, e2⟩ | ⟨g, cap, cur, e1, _⟩
    · exact ⟨_, _, by rw [e1, e2]⟩
    · exact ⟨_, _, e1⟩


theorem run_append_str {w : World} {t u ty e : Nat} {i ui j : TI} (hi : TyIs P t i) (hd : i.d = .slice e) (hu : TyIs P u ui) (hud : ui.d = .str) (hj : TyIs P e j) (hj1 : j.size = 1) (hjb : j.bytes = 1) (hjz : j.zero = [.int .u8]) (hjd : j.d = .int .u8)
    {v : Value} {n : Nat} {us : List Value} (hown : w.ownsRow 0 e 1 v n us) (s : List UInt8) (hb : n + s.length ≤ 140737488355328) :
    ∃ v' w', (Builtin.append_ #[t, u] ty #[v, .string (ofL s)]).run P w = .ok v' w' ∧ w'.ownsRow 0 e 1 v' (n + s.length) (us ++ Lib.byteCells s) ∧ w.grownBy w' v.ownBlock ∧
      (∀ b, hblk v' = some b → w.heap.size ≤ b ∨ hblk v = some b) ∧ (s = [] → v' = v) := by
  obtain ⟨ii, i1, i2, i3, z, i4, i5, i6, i7, i8⟩ := hj.info
  have hz : ii.zero = some (.int .u8 0) := by
    rw [i4]
    congr 1
    rw [hjz] at i5
    cases z <;> first | (simp_all [Value.cells, ZV.val]; done) | skip
    have := i8 (by rw [hjd]; rfl)
    cases this
  have hsl := hi.slice hd
  have hst := hu.str hud
  have hsz : ii.size = 1 := by rw [i2, hj1]
  have hby : ii.bytes = 1 := by rw [i3, hjb]
  have hml : n + s.length ≤ maxLen := by unfold maxLen; omega
  have hsc : Lib.strCells (ofL s) = Lib.byteCells s := rfl
  have hss : (ofL s).size = s.length := rfl
  have hbl : (Lib.byteCells s).length = s.length := Lib.byteCells_length s
  have hxl : us.length = n := by simpa using hown.1
  have hlen : (us ++ Lib.byteCells s).length = (n + s.length) * 1 := by rw [List.length_append, hxl, hbl, Nat.mul_one]
  have made : ∀ (old : Nat), (w.drew.alloc (.cells (us.toArray ++ (Lib.byteCells s).toArray ++ Builtin.zeroCells (Value.int .u8 0).cells (grownCap w (n + s.length) old e - (n + s.length))) e)).ownsRow 0 e 1
        (.slice (some ⟨w.heap.size, 0, none⟩) (n + s.length) (grownCap w (n + s.length) old e)) (n + s.length) (us ++ Lib.byteCells s) := by
    intro old
    have hge := grownCap_ge w (n + s.length) old e
    refine ⟨hlen, .inr ⟨w.heap.size, _, _, rfl, Nat.zero_le _, heap_alloc_new w.drew _, hge, grownCap_le_maxLen w _ old e hml, ?_, ?_⟩⟩
    · have hz1 : (Value.int IntKind.u8 0).cells.size = 1 := rfl
      simp only [Array.size_append, List.size_toArray, size_zeroCells, hz1, hxl, hbl]
      omega
    · simp only [Array.toList_append, List.append_assoc]
      rw [← List.append_assoc, ← hlen]
      exact List.take_left
  by_cases he : s = []
  · subst he
    refine ⟨v, w, ?_, by simpa [Lib.byteCells] using hown, ⟨rfl, rfl, rfl, Nat.le_refl _, fun _ _ _ => rfl⟩, fun b hb => .inr hb, fun _ => rfl⟩
    have hf := Lib.run_firstCells_string (P := P) w 1 (ofL [])
    rw [show (ofL []).size = 0 from rfl] at hf
    rcases hown.2 with ⟨rfl, rfl⟩ | ⟨g, cap, cur, rfl, _, _, q3, _⟩
    · simp [Builtin.append_, run_underlying hsl, run_underlying hst, sizeOf, typeInfo, i1, hsz, Builtin.lenOf, show (ofL []).size = 0 from rfl, hf]
    · have hs0 : Lib.strCells (ofL []) = [] := rfl
      simp [Builtin.append_, run_underlying hsl, run_underlying hst, sizeOf, typeInfo, i1, hsz, Builtin.lenOf, show (ofL []).size = 0 from rfl, hf, q3, hs0, storeCells]
  · have hpos : 0 < s.length := List.length_pos_iff.2 he
    rcases hown.2 with ⟨rfl, rfl⟩ | ⟨g, cap, cur, rfl, hbg, hg, hnc, hcm, hcs, htake⟩
    · have hx : us = [] := List.eq_nil_of_length_eq_zero hxl
      subst hx
      have hr := run_append_nil_string (P := P) w t u ty e ii (.int .u8 0) hsl hst i1 hz (ofL s) hpos (by rw [hss]; omega) (by rw [hby, hss]; omega)
      have hm := made 0
      rw [Nat.zero_add] at hm
      simp only [List.nil_append, Nat.zero_add] at hm ⊢
      refine ⟨_, _, hr, ?_, ⟨rfl, rfl, rfl, by simp, fun k hk _ => heap_alloc_old w.drew _ k hk⟩, fun b hb => ?_, fun h => absurd h he⟩
      · have e1 : ((ofL s).data.map fun b => Value.int .u8 b.toNat) = (Lib.byteCells s).toArray := by apply Array.ext'; simp [Lib.byteCells, ofL]
        rw [e1, hss]
        simpa using hm
      · cases hb; exact .inl (Nat.le_refl _)
    · by_cases hroom : n + s.length ≤ cap
      · have hcs' : cur.size = cap := by simpa using hcs
        have hr := Lib.run_append_room_string (P := P) w t u ty e ii hsl hst i1 hsz g n cap cur hg (ofL s) hroom (by rw [hss]; omega)
        refine ⟨_, _, hr, ⟨hlen, .inr ⟨g, cap, _, rfl, hbg, setRow_heap w g cur _ e _ hg, hroom, hcm, ?_, ?_⟩⟩, ⟨rfl, rfl, rfl, by simp, fun k _ hk => setRow_other w g k _ (fun e => hk (by simp [Value.ownBlock, e]))⟩, fun b hb => .inr hb, fun h => absurd h he⟩
        · simp only [List.size_toArray, List.length_append, List.length_take, List.length_drop, Array.length_toList, hsc, hbl, hss]
          omega
        · have ht' : cur.toList.take n = us := by simpa using htake
          rw [ht', ← hlen, hsc]
          exact List.take_left
      · have holds : ∀ j u, us[j]? = some u → w.cell? ((⟨g, 0, none⟩ : Addr).add j) = some u := hown.cells (g := g) rfl
        have hr := Lib.run_append_grow_string (P := P) w t u ty e ii (.int .u8 0) hsl hst i1 hz ⟨g, 0, none⟩ n cap us (by rw [hsz]; simpa using hxl) holds (ofL s) (by rw [hss]; omega) (by rw [hss]; omega) (by rw [hby]; exact growslice_fits (by rw [hss]; omega) (by rw [hss]; omega))
        exact ⟨_, _, hr, made cap, ⟨rfl, rfl, rfl, by simp, fun k hk _ => heap_alloc_old w.drew _ k hk⟩, fun b hb => by cases hb; exact .inl (Nat.le_refl _), fun h => absurd h he⟩

def byteRows (s : List UInt8) : List (List AV) := s.map fun c => [.int .u8 (.ofNat c.toNat)]
theorem byteRows_len (s : List UInt8) : (byteRows s).length = s.length := by simp [byteRows]
theorem byteRows_flat (s : List UInt8) : (byteRows s).flatten = s.map fun c => AV.int .u8 (.ofNat c.toNat) := by
  induction s with
  | nil => rfl
  | cons c s ih => simpa [byteRows] using ih
theorem byteRows_vr {I : Nat → Prop} {w : World} {κ : Kap} (s : List UInt8) : ∀ (q : Nat) x, (byteRows s).flatten[q]? = some x → VR I w κ x ((Lib.byteCells s).getD q undef) := by
  intro q x hx
  rw [byteRows_flat, List.getElem?_map] at hx
  obtain ⟨c, hc, rfl⟩ := Option.map_eq_some_iff.1 hx
  simp only [Lib.byteCells, List.getD, List.getElem?_map, hc, Option.map_some, Option.getD_some]
  exact .int
theorem vr_strE {κ : Kap} {I : Nat → Prop} {w : World} {s : List UInt8} {v : Value} (h : VR I w κ (.str s) v) : v = .string (ofL s) := by cases h; rfl

theorem vr_intE {κ : Kap} {I : Nat → Prop} {w : World} {k : IntKind} {n : Int} {v : Value} (h : VR I w κ (.int k n) v) : v = .int k n := by cases h; rfl
/-- The bytes of elements, each one number of a byte. -/
def bytesE : List (List AV) → Option (List UInt8)
  | [] => some []
  | [.int .u8 n] :: r => match n with
    | .ofNat m => bif Nat.blt m 256 then (match bytesE r with | some l => some (UInt8.ofNat m :: l) | none => none) else none
    | _ => none
  | _ => none
theorem bytes_cells {I : Nat → Prop} {w : World} {κ : Kap} : ∀ {elems : List (List AV)} {us : List Value} {s : List UInt8}, bytesE elems = some s → (∀ (j : Nat) x, elems.flatten[j]? = some x → VR I w κ x (us.getD j undef)) → s.length = elems.length ∧ ∀ (j : Nat) z, s[j]? = some z → us.getD j undef = .int .u8 z.toNat := by
  intro elems
  induction elems with
  | nil => intro us s h _; cases h; exact ⟨rfl, fun j z hz => by simp at hz⟩
  | cons el r ih =>
    intro us s h hv
    match el, h with
    | [.int .u8 (.negSucc m)], h => cases h
    | [.int .u8 (.ofNat m)], h =>
      simp only [bytesE] at h
      cases hm : Nat.blt m 256
      · rw [hm] at h; cases h
      · rw [hm] at h
        simp only [cond_true] at h
        split at h <;> cases h
        rename_i l hl
        have hmm : m < 256 := by simpa using hm
        obtain ⟨h1, h2⟩ := ih (us := us.drop 1) hl (fun j x hx => by
          have := hv (j + 1) x (by simpa using hx)
          simpa [List.getD, Nat.add_comm] using this)
        refine ⟨by simp [h1], fun j z hz => ?_⟩
        cases j with
        | zero =>
          cases hz
          have := hv 0 (.int .u8 (.ofNat m)) (by simp)
          have e := vr_intE this
          rw [e]
          congr 1
          simp only [UInt8.toNat_ofNat']
          rw [Nat.mod_eq_of_lt hmm]
          rfl
        | succ j =>
          have := h2 j z (by simpa using hz)
          simpa [List.getD, Nat.add_comm] using this

theorem op_append_str_own {t u : Nat} {x y : Operand} (ho : o.op = .call { callee := .builtin .append, args := #[x, y], argTypes := #[t, u] }) {i ui j : TI} (hi : TyIs P t i) {e : Nat} (hd : i.d = .slice e) (hu : TyIs P u ui) (hud : ui.d = .str) (hj : TyIs P e j) (hj1 : j.size = 1) (hjb : j.bytes = 1) (hjz : j.zero = [.int .u8]) (hjd : j.d = .int .u8)
    {id st : Nat} {elems : List (List AV)} (hx : aeval G fr x = .slice id st) (hB : H[id]? = some (.row e 1 elems)) (hst : st = elems.length) {s : List UInt8} (hy : aeval G fr y = .str s) (hb : elems.length + s.length ≤ 140737488355328) :
    OpOk P G o fr H (.slice id (elems.length + (byteRows s).length)) (H.set id (.row e 1 (elems ++ byteRows s))) := by
  refine append_core_own hx hB hst (by intro z hz; obtain ⟨c, _, rfl⟩ := List.mem_map.1 hz; rfl) fun κ I a w hr hf hg v us hown hv => ?_
  have hy' := aeval_vr hg hf y
  rw [hy] at hy'
  have es := vr_strE hy'
  obtain ⟨v', w', r1, r2, r3, r4, r5⟩ := run_append_str (P := P) (ty := o.type) hi hd hu hud hj hj1 hjb hjz hjd hown s hb
  refine ⟨v', w', Lib.byteCells s, ?_, by rw [byteRows_len]; exact r2, r3, byteRows_vr s, ?_, by rw [byteRows_len, Lib.byteCells_length, Nat.mul_one], r4, fun h => r5 (by simpa [byteRows] using h)⟩
  · simp [execOp, ho, resolve, invoke, builtin, hv, es, r1]
  · intro u hu
    obtain ⟨c, _, rfl⟩ := List.mem_map.1 hu
    rfl
theorem op_append_str_nil {t u : Nat} {x y : Operand} (ho : o.op = .call { callee := .builtin .append, args := #[x, y], argTypes := #[t, u] }) {i ui j : TI} (hi : TyIs P t i) {e : Nat} (hd : i.d = .slice e) (hu : TyIs P u ui) (hud : ui.d = .str) (hj : TyIs P e j) (hj1 : j.size = 1) (hjb : j.bytes = 1) (hjz : j.zero = [.int .u8]) (hjd : j.d = .int .u8)
    (hx : aeval G fr x = .nils) {s : List UInt8} (hy : aeval G fr y = .str s) (hb : s.length ≤ 140737488355328) :
    OpOk P G o fr H (.slice H.length (byteRows s).length) (H ++ [.row e 1 (byteRows s)]) := by
  refine append_core_nil hx (by intro z hz; obtain ⟨c, _, rfl⟩ := List.mem_map.1 hz; rfl) fun κ I a w hr hf hg hv => ?_
  have hy' := aeval_vr hg hf y
  rw [hy] at hy'
  have es := vr_strE hy'
  obtain ⟨v', w', r1, r2, r3, r4, r5⟩ := run_append_str (P := P) (ty := o.type) hi hd hu hud hj hj1 hjb hjz hjd (World.ownsRow_nil w 0 e 1) s (by omega)
  rw [Nat.zero_add, List.nil_append] at r2
  refine ⟨v', w', Lib.byteCells s, ?_, by rw [byteRows_len]; exact r2, r3, byteRows_vr s, ?_, by rw [byteRows_len, Lib.byteCells_length, Nat.mul_one], r4, fun h => r5 (by simpa [byteRows] using h)⟩
  · simp [execOp, ho, resolve, invoke, builtin, hv, es, r1]
  · intro u hu
    obtain ⟨c, _, rfl⟩ := List.mem_map.1 hu
    rfl

/-! ### Addresses -/
theorem TyIs.ptr {t : Nat} {i : TI} (h : TyIs P t i) {e : Nat} (hd : i.d = .ptr e) : P.underlying t = some (.pointer e) := by
  obtain ⟨d, h1, h2⟩ := h.desc
  rw [hd] at h2
  cases d <;> simp [TD.ok] at h2
  rw [h1, h2]
theorem TyIs.uptr {t : Nat} {i : TI} (h : TyIs P t i) (hd : i.d = .uptr) : P.underlying t = some .unsafePointer := by
  obtain ⟨d, h1, h2⟩ := h.desc
  rw [hd] at h2
  cases d <;> simp [TD.ok] at h2
  exact h1
/-- What stands concretely behind a pointer to a row's element. -/
theorem ptr_at {κ : Kap} {I : Nat → Prop} {w : World} (hr : HRel κ I H w) {id k off st e sz : Nat} {elems : List (List AV)} {v : Value} (hB : H[id]? = some (.row e sz elems)) (hv : VR I w κ (.ptr id k off st) v) (hst : st = elems.length) (hk : k < elems.length) (hoff : off < sz) :
    ∃ b cur, v = .pointer (some ⟨b, k * sz + off, none⟩) ∧ w.heap[b]? = some (.cells cur e (0, 0)) ∧ elems.length * sz ≤ cur.size ∧ ∃ cap, cur.size = cap * sz ∧ elems.length ≤ cap := by
  obtain ⟨c, us, hc, h1, h2, ⟨h3, h4⟩, h5, h6, h7⟩ := hr.ok id _ hB
  cases hv with
  | ptr c' hc' hst' hp h =>
    obtain rfl : c' = c := by rw [hc] at hc'; cases hc'; rfl
    obtain ⟨b, m, cp, e1, e2⟩ := h (by omega)
    rcases h4 with ⟨e3, _⟩ | ⟨g, cap, cur, e3, e4, e5, e6, e7, e8, e9⟩
    · rw [e1] at e3; cases e3
    · rw [e1] at e3
      cases e3
      rw [h2] at e2
      exact ⟨b, cur, e2, e5, by rw [e8]; exact Nat.mul_le_mul_right _ e6, cp, e8, e6⟩
theorem liesAt_self {e : Nat} (hc : P.cellsOf e ≠ 0) (count : Nat) (hn : 1 ≤ count) : liesAt P P.depth e count 0 e 1 = true := by
  have hd : P.depth = (2 * (P.types.size + Made.depth) + 1) + 1 := rfl
  rw [hd]
  simp only [liesAt, Bool.or_eq_true]
  left
  rw [hd]
  simp [rowAt, hc, hn, sameLayout]
theorem op_toUnsafe {t u : Nat} {x : Operand} (ho : o.op = .convert t u x) {i ui j : TI} (hi : TyIs P t i) {e : Nat} (hd : i.d = .ptr e) (hu : TyIs P u ui) (hud : ui.d = .uptr) (hj : TyIs P e j) (hj0 : j.size ≠ 0)
    {id k off st e' sz : Nat} {elems : List (List AV)} (hx : aeval G fr x = .ptr id k off st) (hB : H[id]? = some (.row e' sz elems)) (hst : st = elems.length) (hk : k < elems.length) (hoff : off < sz) : OpOk P G o fr H (.ptr id k off st) H :=
  .here fun κ I a w hg hr hf => by
    have hv := aeval_vr hg hf x
    rw [hx] at hv
    obtain ⟨b, cur, e1, e2, e3, cap, e4, e5⟩ := ptr_at hr hB hv hst hk hoff
    obtain ⟨jj, h1, h2, h3, _⟩ := hj.info
    have hlt : k * sz + off < cur.size := by
      have : (k + 1) * sz ≤ elems.length * sz := Nat.mul_le_mul_right _ hk
      rw [Nat.add_mul] at this
      omega
    have hrun := Lib.run_to_unsafe (P := P) w ⟨b, k * sz + off, none⟩ (hi.ptr hd) (hu.uptr hud) h1 (by rw [h2]; exact hj0) (e := e') (cells := cur.size) (by simp [World.shape?, e2]) hlt
    refine ⟨a.eval x, ?_, hv⟩
    rw [e1]
    simp only [execOp, ho, e1, Sem.run_bind, hrun, Result.andThen_ok, Sem.run_pure]
theorem op_fromUnsafe {t u : Nat} {x : Operand} (ho : o.op = .convert t u x) {i ui j : TI} (hi : TyIs P t i) (hd : i.d = .uptr) (hu : TyIs P u ui) {e : Nat} (hud : ui.d = .ptr e) (hj : TyIs P e j) (hj0 : j.size ≠ 0)
    {id st sz : Nat} {elems : List (List AV)} (hx : aeval G fr x = .ptr id 0 0 st) (hB : H[id]? = some (.row e sz elems)) (hsz : sz = j.size) (hst : st = elems.length) (hk : 0 < elems.length) : OpOk P G o fr H (.ptr id 0 0 st) H :=
  .here fun κ I a w hg hr hf => by
    have hv := aeval_vr hg hf x
    rw [hx] at hv
    obtain ⟨b, cur, e1, e2, e3, cap, e4, e5⟩ := ptr_at hr hB hv hst hk (by omega)
    rw [Nat.zero_mul, Nat.zero_add] at e1
    obtain ⟨jj, h1, h2, h3, _⟩ := hj.info
    have hcells : P.cellsOf e = j.size := by simp [Program.cellsOf, h1, h2]
    have hcap : cur.size / P.cellsOf e = cap := by
      rw [hcells, e4, hsz]
      exact Nat.mul_div_cancel _ (by omega)
    have hlies := liesAt_self (P := P) (e := e) (by rw [hcells]; exact hj0) cap (by omega)
    have hrun := Lib.run_from_unsafe (P := P) w ⟨b, 0, none⟩ (hi.uptr hd) (hu.ptr hud) h1 (e := e) (cells := cur.size) (by simp [World.shape?, e2]) (by rw [hcap]; exact hlies)
    refine ⟨a.eval x, ?_, hv⟩
    rw [e1]
    simp only [execOp, ho, e1, Sem.run_bind, hrun, Result.andThen_ok, Sem.run_pure]
/-- A call of a function without a body that hands back what it was given. -/
theorem op_noEscape {f y : Operand} {ts : Array TypeId} {g : Nat} {fn : Func} (ho : o.op = .call { callee := .value f, args := #[y], argTypes := ts }) (hf' : aeval G fr f = .func (.func g) [] []) (hg' : P.funcs[g]? = some fn) (hname : (fn.name == "runtime.NumGoroutine") = false)
    (hb : fn.body.isNone = true) (hn : Extern.findNext fn = none) (he : Extern.find fn = some Extern.AbiNoEscape.same) : OpOk P G o fr H (aeval G fr y) H :=
  .here fun κ I a w hg hr hf => by
    have hv := aeval_vr hg hf f
    rw [hf'] at hv
    generalize ha : a.eval f = v at hv
    cases hv with
    | @func _ _ _ _ us vs l1 l2 v1 v2 =>
      obtain rfl : us = [] := List.eq_nil_of_length_eq_zero l1
      obtain rfl : vs = [] := List.eq_nil_of_length_eq_zero l2
      refine ⟨a.eval y, ?_, aeval_vr hg hf y⟩
      have := run_callFunc_extern (P := P) hg' hname hb hn he #[a.eval y] w
      rw [Lib.run_noEscape] at this
      simp only [execOp, ho, resolve, Deferred.ofValue, ha, invoke]
      simp
      exact this
theorem op_eqptr {op : BinOp} {t u : Nat} {x y : Operand} (ho : o.op = .binOp op t x y u) (hop : op = .eql ∨ op = .neq) {i j : TI} (hi : TyIs P t i) {e : Nat} (hd : i.d = .ptr e) (hj : TyIs P e j) {id k off st e' sz : Nat} {elems : List (List AV)}
    (hx : aeval G fr x = .ptr id k off st) (hy : aeval G fr y = .ptr id k off st) (hB : H[id]? = some (.row e' sz elems)) (hst : st = elems.length) (hk : k < elems.length) (hoff : off < sz) : OpOk P G o fr H (.bool (eqB op true)) H :=
  .here fun κ I a w hg hr hf => by
    have hv := aeval_vr hg hf x
    have hw := aeval_vr hg hf y
    rw [hx] at hv; rw [hy] at hw
    obtain ⟨b, cur, e1, e2, _⟩ := ptr_at hr hB hv hst hk hoff
    obtain ⟨b', cur', f1, f2, _⟩ := ptr_at hr hB hw hst hk hoff
    have hbb : a.eval y = a.eval x := by
      obtain ⟨c, us, hc, h1, _⟩ := hr.ok id _ hB
      generalize a.eval x = v at hv
      generalize a.eval y = u at hw
      cases hv with
      | ptr c1 hc1 hst1 hp1 h1' =>
        cases hw with
        | ptr c2 hc2 hst2 hp2 h2' =>
          rw [hc] at hc1 hc2; cases hc1; cases hc2
          obtain ⟨p1, p2, p3, p4, p5⟩ := h1' (by omega)
          obtain ⟨s1, s2, s3, s4, s5⟩ := h2' (by omega)
          rw [p4] at s4
          cases s4
          rw [p5, s5]
    obtain ⟨jj, h1, _⟩ := hj.info
    have hp := hi.ptr hd
    have hgd : ∀ xo yo, eqGuard op t xo yo (.pointer (some ⟨b, k * sz + off, none⟩)) (.pointer (some ⟨b, k * sz + off, none⟩)) = pure () := by
      intro xo yo
      rcases hop with rfl | rfl <;> rfl
    refine ⟨.bool (eqB op true), ?_, .bool⟩
    have h := fun d : Nat => show (Op.equalIn (d + 1) t (.pointer (some ⟨b, k * sz + off, none⟩)) (.pointer (some ⟨b, k * sz + off, none⟩))).run P w = .ok true w by
      simp [Op.equalIn, run_underlying hp, sizeOf, typeInfo, h1, run_sameAddr_same]
    have he := run_equal_of h
    rcases hop with rfl | rfl
    · simp only [execOp, ho, hbb, e1, hgd, Sem.run_bind, Sem.run_pure, Result.andThen_ok, binOp]
      simp [he, eqB]
    · simp only [execOp, ho, hbb, e1, hgd, Sem.run_bind, Sem.run_pure, Result.andThen_ok, binOp]
      simp [he, eqB]
/-! ### the addresses of rows, texts out of them -/
theorem op_sliceData {x : Operand} {ts : Array TypeId} (ho : o.op = .call { callee := .builtin .unsafeSliceData, args := #[x], argTypes := ts }) {id st e sz : Nat} {elems : List (List AV)} (hx : aeval G fr x = .slice id st) (hB : H[id]? = some (.row e sz elems)) (hst : st = elems.length) (h0 : 0 < st) :
    OpOk P G o fr H (.ptr id 0 0 st) H :=
  .here fun κ I a w hg hr hf => by
    have hv := aeval_vr hg hf x
    rw [hx] at hv
    generalize ha : a.eval x = v at hv
    obtain ⟨c, us, hc, q1, q2, ⟨q3, q4⟩, q5, q6, q7⟩ := hr.ok id _ hB
    cases hv with
    | slice c' hc' hst' hl h =>
      obtain rfl : c' = c := by rw [hc] at hc'; cases hc'; rfl
      have hh := h (by omega)
      rcases q4 with ⟨e3, e4⟩ | ⟨g, cap, cur, e3, e4, e5, e6, e7, e8, e9⟩
      · omega
      · rw [e3] at hh
        subst hh
        have hrun := Lib.run_unsafeSliceData_row (P := P) w ts o.type ⟨g, 0, none⟩ elems.length cap (by omega)
        refine ⟨.pointer (some ⟨g, 0, none⟩), ?_, .ptr c' hc hst' ⟨_, rfl⟩ fun _ => ⟨g, _, cap, e3, by simp⟩⟩
        simp [execOp, ho, resolve, invoke, builtin, ha, hrun]
theorem op_sliceData_nil {x : Operand} {ts : Array TypeId} (ho : o.op = .call { callee := .builtin .unsafeSliceData, args := #[x], argTypes := ts }) (hx : aeval G fr x = .nils) : OpOk P G o fr H .nilp H :=
  .here fun κ I a w hg hr hf => by
    have hv := aeval_vr hg hf x
    rw [hx] at hv
    generalize ha : a.eval x = v at hv
    cases hv
    exact ⟨.pointer none, by simp [execOp, ho, resolve, invoke, builtin, ha, Lib.run_unsafeSliceData_nil], .nilp⟩
theorem op_unsafeString_nil {x y : Operand} {pt it : TypeId} (ho : o.op = .call { callee := .builtin .unsafeString, args := #[x, y], argTypes := #[pt, it] }) (hx : aeval G fr x = .nilp) (hy : aeval G fr y = .int .i64 0) : OpOk P G o fr H (.str []) H :=
  .here fun κ I a w hg hr hf => by
    have hv := aeval_vr hg hf x
    have hw := aeval_vr hg hf y
    rw [hx] at hv; rw [hy] at hw
    generalize ha : a.eval x = v at hv
    generalize hb : a.eval y = u at hw
    cases hv; cases hw
    refine ⟨.string (ofL []), ?_, .str (by simp)⟩
    simp [execOp, ho, resolve, invoke, builtin, ha, hb, Lib.run_unsafeString_none]
    rfl
/-- Freezing in a block of the call's own: it is nobody's any more. -/
theorem HRel.forget {κ : Kap} {I : Nat → Prop} {w w' : World} {id : Nat} {B : AB} {c : Conc} (h : HRel κ I H w) (hB : H[id]? = some B) (hl : B.live = true) (hc : κ id = some c) (ho : w'.os = w.os) (ht : w'.tape = w.tape) (hp : w'.output = w.output) (hs : w.heap.size ≤ w'.heap.size)
    (hk : ∀ b, b < w.heap.size → hblk c.hdr ≠ some b → w'.heap[b]? = w.heap[b]?) : HRel κ I (H.set id .dead) w' ∧ Stp κ I H w κ I (H.set id .dead) w' := by
  have hcc : upd κ id c = κ := by
    funext j
    by_cases e : j = id
    · subst e; rw [upd_same, hc]
    · rw [upd_ne _ _ e]
  have := h.write (B := .dead) (c := c) (w' := w') hB hl hc ho ht hp hs hk (Nat.le_refl _) (fun _ => rfl) (fun b hb => .inr hb) trivial
  rwa [hcc] at this
theorem op_unsafeString {x y : Operand} {pt it e : Nat} (ho : o.op = .call { callee := .builtin .unsafeString, args := #[x, y], argTypes := #[pt, it] }) {i j : TI} (hi : TyIs P pt i) (hd : i.d = .ptr e) (hj : TyIs P e j) (hj1 : j.size = 1) {id st : Nat} {elems : List (List AV)} {s : List UInt8}
    (hx : aeval G fr x = .ptr id 0 0 st) (hy : aeval G fr y = .int .i64 st) (hB : H[id]? = some (.row e 1 elems)) (hst : st = elems.length) (h0 : 0 < st) (hs : bytesE elems = some s) (hm : s.length ≤ maxLen) : OpOk P G o fr H (.str s) (H.set id .dead) := by
  intro κ I a w hg hr hf
  have hv := aeval_vr hg hf x
  have hw := aeval_vr hg hf y
  rw [hx] at hv; rw [hy] at hw
  have ey := vr_intE hw
  have hok := hr.ok id _ hB
  obtain ⟨b, cur, e1, e2, e3, _⟩ := ptr_at hr hB hv hst (by omega) (by omega)
  rw [Nat.zero_mul, Nat.zero_add] at e1
  obtain ⟨c, us, hc, q1, q2, ⟨q3, q4⟩, q5, q6, q7⟩ := hok
  have hhdr : hblk c.hdr = some b := by
    generalize a.eval x = u at hv e1
    cases hv with
    | ptr c' hc' hst' hp h =>
      obtain rfl : c' = c := by rw [hc] at hc'; cases hc'; rfl
      obtain ⟨b', m, cp, f1, f2⟩ := h (by omega)
      rw [e1, Nat.zero_mul, Nat.add_zero] at f2
      cases f2
      rw [f1]; rfl
  obtain ⟨hlen, hcell⟩ := bytes_cells (I := I) (w := w) (κ := κ) hs q7
  have hsl : s.length = st := by rw [hlen, hst]
  rcases q4 with ⟨f3, f4⟩ | ⟨g, cap, cur', f3, f4, f5, f6, f7, f8, f9⟩
  · rw [f3] at hhdr; cases hhdr
  · obtain rfl : b = g := by rw [f3] at hhdr; exact (Option.some.inj hhdr).symm
    rw [e2] at f5
    cases f5
    obtain ⟨jj, h1, h2, _⟩ := hj.info
    have hcells : P.cellsOf e = 1 := by simp [Program.cellsOf, h1, h2, hj1]
    have hrun := Lib.run_unsafeString_row (P := P) w pt it o.type e (hi.ptr hd) hcells b cur.size (by simp [World.shape?, e2]) s (fun h => by subst h; simp at hsl; omega) (by rw [hsl, hst]; omega) (by unfold maxLen at hm; omega) (fun q z hz => by
      have hu := hcell q z hz
      have hq : q < st := by rw [← hsl]; exact (List.getElem?_eq_some_iff.1 hz).1
      have hc9 : cur.toList[q]? = us[q]? := by rw [← f9, List.getElem?_take, if_pos (by omega)]
      rw [cell_add, Nat.zero_add]
      simp only [World.cell?, e2]
      simp only [Option.isSome_none, Bool.false_eq_true, if_false]
      rw [← Array.getElem?_toList, hc9]
      have : q < us.length := by rw [q3]; omega
      rw [List.getElem?_eq_getElem this]
      have h9 := hu
      simp only [List.getD, List.getElem?_eq_getElem this, Option.getD_some] at h9
      rw [h9])
    have hlt : b < w.heap.size := (Array.getElem?_eq_some_iff.1 e2).1
    obtain ⟨m1, m2⟩ := hr.forget (w' := w.freeze ⟨b, 0, none⟩ s.length) hB rfl hc (by unfold World.freeze; split <;> rfl) (by unfold World.freeze; split <;> rfl) (by unfold World.freeze; split <;> rfl) (by unfold World.freeze; split <;> simp) (fun b' _ hne => by
      have : b ≠ b' := fun h => hne (by rw [f3, h]; rfl)
      unfold World.freeze
      split
      · rfl
      · simp [Array.getElem?_modify, this])
    refine ⟨.string (ofL s), κ, I, _, .inl ?_, .str hm, m1, m2⟩
    rw [hsl] at hrun m1
    simp only [execOp, ho, resolve, invoke, builtin]
    simp [e1, ey]
    rw [hrun, hsl]
    rfl
end
end Go.Proofs.Ax
/- AX, part Q: rules to walk by. -/
set_option linter.unusedVariables false
set_option linter.unusedSimpArgs false
namespace Go.Proofs.Ax
open Go.RowKit

section
variable {P : Program} {T : Tab} {G : Glob} {ops : Array Oper} {rest : List Oper} {o : Oper} {fr : Fr} {H : AH} {Q : AQ}

theorem AOps.step (hT : T.ok P = true) {p : Prop} {v : AV} {H' : AH} (hw : wantedA ops fr o true) (hd : dstOk o fr.n) (h : astep T G fr H o.op = some (p, v, H')) (hp : p) (hr : AOps P G ops rest (fr.put o.dst v) H' Q) : AOps P G ops (o :: rest) fr H Q :=
  AOps.op hw hd (astep_ok hT h hp) hr
theorem AOps.nil_seq {y : Code} (h : AWp P G y fr H Q) : AOps P G ops [] fr H (AQ.then (fun fr' H' => AWp P G y fr' H' Q) Q) := AOps.nil h
theorem AWp.skip_seq {y : Code} (h : AWp P G y fr H Q) : AWp P G .skip fr H (AQ.then (fun fr' H' => AWp P G y fr' H' Q) Q) := AWp.skip h
theorem dst_some {o : Oper} {d n : Nat} (h : o.dst = some d) (hn : Nat.blt d n = true) : dstOk o n := fun e he => by
  rw [h] at he; cases he
  simpa [Nat.blt_eq] using hn
theorem dst_none {o : Oper} {n : Nat} (h : o.dst = none) : dstOk o n := fun e he => by rw [h] at he; cases he
theorem wanted_none {ops : Array Oper} {fr : Fr} {o : Oper} (h : o.guard = none) : wantedA ops fr o true := by unfold wantedA; rw [h]
theorem wanted_some {ops : Array Oper} {fr : Fr} {o : Oper} {j t : Nat} {want c b : Bool} (h : o.guard = some (j, want)) (ht : (ops[j]?).bind (·.dst) = some t) (hc : fr.get t = .bool c) (hn : Nat.blt t fr.n = true) (hb : b = (c == want)) : wantedA ops fr o b := by
  unfold wantedA; rw [h]; exact ⟨t, ht, by simpa [Nat.blt_eq] using hn, .inl ⟨c, hc, hb⟩⟩
theorem wanted_undef {ops : Array Oper} {fr : Fr} {o : Oper} {j t : Nat} {want : Bool} (h : o.guard = some (j, want)) (ht : (ops[j]?).bind (·.dst) = some t) (hc : fr.get t = .tuple []) (hn : Nat.blt t fr.n = true) : wantedA ops fr o false := by
  unfold wantedA; rw [h]; exact ⟨t, ht, by simpa [Nat.blt_eq] using hn, .inr ⟨hc, rfl⟩⟩

/-- A slot that holds a Bool of which one knows what it is. -/
theorem FRel.known {I : Nat → Prop} {w : World} {κ : Kap} {a : Act} (h : FRel I w κ fr a) {t : Nat} {c : Bool} (hc : fr.get t = .bool c) : FRel I w κ { fr with s := (t, .bool c) :: fr.s } a := by
  refine h.weak rfl rfl fun i x hx => ?_
  simp only [List.lookup] at hx
  by_cases e : i = t
  · subst e
    simp only [beq_self_eq_true, Option.some.injEq] at hx
    subst hx
    right
    unfold Fr.get at hc
    cases hk : fr.s.lookup i with
    | none => rw [hk] at hc; cases hc
    | some y => rw [hk] at hc; simpa using hc
  · have e' : (i == t) = false := by simpa using e
    rw [e'] at hx
    exact .inr hx

/-- A Bool in a slot is not known: both ways. -/
theorem AOps.split (t : Nat) {c : Bool} (hc : fr.get t = .bool c) (h1 : c = true → AOps P G ops rest { fr with s := (t, .bool true) :: fr.s } H Q) (h2 : c = false → AOps P G ops rest { fr with s := (t, .bool false) :: fr.s } H Q) : AOps P G ops rest fr H Q := by
  intro κ I a w hg hr hf
  cases hb : c with
  | true => exact h1 hb κ I a w hg hr (hb ▸ hf.known hc)
  | false => exact h2 hb κ I a w hg hr (hb ▸ hf.known hc)
theorem AOps.guardS {j t : Nat} {want c : Bool} (hg : o.guard = some (j, want)) (ht : (ops[j]?).bind (·.dst) = some t) (hc : fr.get t = .bool c) (h1 : c = true → AOps P G ops (o :: rest) { fr with s := (t, .bool true) :: fr.s } H Q) (h2 : c = false → AOps P G ops (o :: rest) { fr with s := (t, .bool false) :: fr.s } H Q) : AOps P G ops (o :: rest) fr H Q :=
  AOps.split t hc h1 h2

/-- A call of a function that needs no block and leaves none. -/
theorem AOps.call_pure {f : Operand} {args : Array Operand} {ts : Array TypeId} {g : FuncId} {first cap : List AV} {fn : Func} (hw : wantedA ops fr o true) (hd : dstOk o fr.n) (ho : o.op = .call { callee := .value f, args, argTypes := ts }) (hf' : aeval G fr f = .func (.func g) first cap)
    (hg' : P.funcs[g]? = some fn) (hb : fn.body.isNone = false) (hn : (fn.name == "runtime.NumGoroutine") = false) {args' : List AV} (ha : AV.rens (fun _ => none) (first ++ args.toList.map (aeval G fr) ++ cap) = args') {R : AEnd → Prop}
    (hc : ACalls P G g args' [] (fun e H => R e ∧ H = [])) (h : ∀ e, R e → callQ P G ops rest o fr Q (e.ren fun _ => none) H) : AOps P G ops (o :: rest) fr H Q := by
  refine AOps.call hw hd ho hf' hg' hb hn ?_
  subst ha
  refine (ACalls.pure (H := H) hc).mono ?_
  rintro e H2 ⟨⟨e0, h1, rfl⟩, rfl⟩
  exact h e0 h1
/-- The same, where one knows what it hands back. -/
theorem AOps.call_ret {f : Operand} {args : Array Operand} {ts : Array TypeId} {g : FuncId} {first cap : List AV} {fn : Func} (hw : wantedA ops fr o true) (hd : dstOk o fr.n) (ho : o.op = .call { callee := .value f, args, argTypes := ts }) (hf' : aeval G fr f = .func (.func g) first cap)
    (hg' : P.funcs[g]? = some fn) (hb : fn.body.isNone = false) (hn : (fn.name == "runtime.NumGoroutine") = false) {args' : List AV} (ha : AV.rens (fun _ => none) (first ++ args.toList.map (aeval G fr) ++ cap) = args') {r r' : AV}
    (hc : ACalls P G g args' [] (fun e H => e = .ret r ∧ H = [])) (hr : r.ren (fun _ => none) = r') (h : AOps P G ops rest (fr.put o.dst r') H Q) : AOps P G ops (o :: rest) fr H Q :=
  AOps.call_pure hw hd ho hf' hg' hb hn ha hc (by rintro e rfl; subst hr; exact h)

/-- What an end stands for may stand in another way, relative to a beginning with n0 blocks. -/
def KSt (n0 : Nat) (fr : Fr) (H : AH) (fr2 : Fr) (H2 : AH) : Prop :=
  ∀ κ0 I0 H0 w0 κ I a w, H0.length = n0 → HRel κ0 I0 H0 w0 → Stp κ0 I0 H0 w0 κ I H w → HRel κ I H w → FRel I w κ fr a → ∃ κ' I', HRel κ' I' H2 w ∧ FRel I' w κ' fr2 a ∧ Stp κ0 I0 H0 w0 κ' I' H2 w

theorem KSt.of {n0 : Nat} {fr2 : Fr} {H2 : AH} (h : ASt fr H fr2 H2) : KSt n0 fr H fr2 H2 := by
  intro κ0 I0 H0 w0 κ I a w _ _ hs hr hf
  obtain ⟨κ', I', h1, h2, h3⟩ := h κ I a w hr hf
  exact ⟨κ', I', h1, h2, hs.trans h3⟩
theorem KSt.le {n0 : Nat} {fr2 : Fr} (h : FrLe fr2 fr) : KSt n0 fr H fr2 H := .of (.le h)
theorem KSt.keep {n0 : Nat} (n : Nat) (xs : List Nat) (h0 : n0 ≤ n) (hn : n ≤ H.length) (hxs : ∀ x ∈ xs, n ≤ x ∧ x < H.length) (hnd : xs.Nodup) : KSt n0 fr H (fr.ren (keepS n xs)) (H.keep n xs) := by
  intro κ0 I0 H0 w0 κ I a w hl hr0 hs hr hf
  exact ⟨_, I, hr.keep n xs hn hxs hnd, hf.ren (kapKeep_spec κ n xs), hs.keep hr0 n xs hn (by omega) hxs⟩
theorem KSt.trans {n0 : Nat} {fr2 fr3 : Fr} {H2 H3 : AH} (h : KSt n0 fr H fr2 H2) (k : KSt n0 fr2 H2 fr3 H3) : KSt n0 fr H fr3 H3 := by
  intro κ0 I0 H0 w0 κ I a w hl hr0 hs hr hf
  obtain ⟨κ', I', h1, h2, h3⟩ := h κ0 I0 H0 w0 κ I a w hl hr0 hs hr hf
  exact k κ0 I0 H0 w0 κ' I' a w hl hr0 h3 h1 h2

/-- A loop: what stands at each round's head is told by a state of one's own. -/
theorem AWp.loopK {c : Code} {σ : Type} (S : σ → Fr) (SH : σ → AH) (μ : σ → Nat) (x0 : σ) (h0 : ASt fr H (S x0) (SH x0))
    (round : ∀ x, AWp P G c (S x) (SH x) (AQ.then (fun fr' H' => ∃ x', μ x' < μ x ∧ KSt (SH x).length fr' H' (S x') (SH x')) Q)) : AWp P G (.loop c) fr H Q := by
  refine AWp.pre h0 ?_
  intro κ I a w hg hr hf b k cs
  have key : ∀ n x, μ x = n → ∀ κ I a w, GRel I w G → HRel κ I (SH x) w → FRel I w κ (S x) a →
      ∃ e a' w', APost κ I (SH x) w Q e a' w' ∧ Arrives P (lone (b.at a (.code c :: .inLoop c :: k)) cs w) b k cs e a' w' := by
    intro n
    induction n using Nat.strongRecOn with
    | _ n ih =>
      intro x hx κ I a w hg hr hf
      obtain ⟨e, a1, w1, hq, harr⟩ := round x κ I a w hg hr hf b (.inLoop c :: k) cs
      have hq' := hq.then (K := fun a' w' => ∃ x' κ' I', μ x' < μ x ∧ GRel I' w' G ∧ HRel κ' I' (SH x') w' ∧ FRel I' w' κ' (S x') a' ∧ Stp κ I (SH x) w κ' I' (SH x') w') hg hr
        (by
          rintro fr' H' κ' I' a' w' ⟨x', hlt, hk⟩ hg' hr' hf' hs
          obtain ⟨κ2, I2, m1, m2, m3⟩ := hk κ I (SH x) w κ' I' a' w' rfl hr hs hr' hf'
          exact ⟨x', κ2, I2, hlt, m3.grel hr hg, m1, m2, m3⟩)
      cases e with
      | normal =>
        obtain ⟨x', κ', I', hlt, hg', hr', hf', hs⟩ := hq'
        obtain ⟨e2, a2, w2, hq2, harr2⟩ := ih (μ x') (hx ▸ hlt) x' rfl κ' I' a1 w1 hg' hr' hf'
        exact ⟨e2, a2, w2, APost.back hs hq2, .of_steps (Steps.trans harr (.one step_inLoop)) harr2⟩
      | exit id => exact ⟨_, a1, w1, hq', .pass (x := .inLoop c) rfl (fun _ _ => .inl (by simp)) harr⟩
      | goto l => exact ⟨_, a1, w1, hq', .pass (x := .inLoop c) rfl (fun _ _ => .inl (by simp)) harr⟩
      | ret => exact ⟨_, a1, w1, hq', .pass (x := .inLoop c) rfl (fun _ _ => .inl (by simp)) harr⟩
      | panic ch => exact ⟨_, a1, w1, hq', .pass (x := .inLoop c) rfl (fun _ _ => .inl (by simp)) harr⟩
      | outgrown => exact ⟨_, a1, w1, hq', .pass (x := .inLoop c) rfl (fun _ _ => .inl (by simp)) harr⟩
  obtain ⟨e, a', w', hq, harr⟩ := key _ x0 rfl κ I a w hg hr hf
  exact ⟨e, a', w', hq, .of_steps (.one step_loop) harr⟩

/-- A function's body, whose blocks but some go at its end. -/
def bodyK (n0 : Nat) (ts : List Tmp) (Q : AEnd → AH → Prop) : AQ
  | .normal, fr, H | .ret, fr, H => fr.d = [] ∧ ∃ xs, n0 ≤ H.length ∧ (∀ x ∈ xs, n0 ≤ x ∧ x < H.length) ∧ xs.Nodup ∧ Q (.ret ((packR (ts.map fr.get)).ren (keepS n0 xs))) (H.keep n0 xs)
  | .panic v, fr, H => fr.d = [] ∧ ∃ xs, n0 ≤ H.length ∧ (∀ x ∈ xs, n0 ≤ x ∧ x < H.length) ∧ xs.Nodup ∧ Q (.panic (v.ren (keepS n0 xs))) (H.keep n0 xs)
  | _, _, _ => False

theorem get_ren (σ : Nat → Option Nat) (fr : Fr) (t : Nat) : (fr.ren σ).get t = (fr.get t).ren σ := by
  simp only [Fr.get, Fr.ren, lookup_map]
  cases fr.s.lookup t <;> rfl
theorem pack_ren (σ : Nat → Option Nat) (fr : Fr) (ts : List Tmp) : packR (ts.map (fr.ren σ).get) = (packR (ts.map fr.get)).ren σ := by
  match ts with
  | [] => rfl
  | [t] => exact get_ren σ fr t
  | t :: u :: l =>
    simp only [packR, List.map_cons, AV.ren, AV.rens, get_ren]
    congr 3
    rw [AV.rens_eq, List.map_map]
    apply List.map_congr_left
    intro x _
    exact get_ren σ fr x

theorem ACalls.of_bodyK {f : FuncId} {fn : Func} {c : Code} {args : List AV} {ts : List Tmp} {Q : AEnd → AH → Prop} (hf : P.funcs[f]? = some fn) (hb : fn.body = some c) (ht : resT fn.results.toList = some ts)
    (h : AWp P G c (Fr.enter args fn.ntmps) H (bodyK H.length ts Q)) : ACalls P G f args H Q := by
  refine ACalls.of_body hf hb ht (AWp.keep (h.mono ?_))
  intro e fr' H' hq
  cases e <;> simp only [bodyK] at hq
  · obtain ⟨hd, xs, h1, h2, h3, h4⟩ := hq
    exact ⟨H.length, xs, Nat.le_refl _, h1, h2, h3, by simp [Fr.ren, hd], by rw [pack_ren]; exact h4⟩
  · obtain ⟨hd, xs, h1, h2, h3, h4⟩ := hq
    exact ⟨H.length, xs, Nat.le_refl _, h1, h2, h3, by simp [Fr.ren, hd], by rw [pack_ren]; exact h4⟩
  · obtain ⟨hd, xs, h1, h2, h3, h4⟩ := hq
    exact ⟨H.length, xs, Nat.le_refl _, h1, h2, h3, by simp [Fr.ren, hd], h4⟩

/-- The end of a function that leaves no block. -/
theorem bodyK.ret0 {ts : List Tmp} {Q : AEnd → AH → Prop} (hd : fr.d = []) {r : AV} (hr : (packR (ts.map fr.get)).ren (keepS 0 []) = r) (hq : Q (.ret r) []) : bodyK 0 ts Q .ret fr H :=
  ⟨hd, [], Nat.zero_le _, by simp, List.nodup_nil, by rw [hr]; exact hq⟩
end
end Go.Proofs.Ax

namespace Go.Proofs.Ax
section
variable {P : Program} {G : Glob} {fr : Fr} {H : AH} {Q : AQ} {next : Fr → AH → Prop} {ops : Array Oper}
theorem then_normal (h : next fr H) : AQ.then next Q .normal fr H := h
theorem then_exit {i : Nat} (h : Q (.exit i) fr H) : AQ.then next Q (.exit i) fr H := h
theorem then_goto {i : Nat} (h : Q (.goto i) fr H) : AQ.then next Q (.goto i) fr H := h
theorem then_ret (h : Q .ret fr H) : AQ.then next Q .ret fr H := h
theorem then_panic {v : AV} (h : Q (.panic v) fr H) : AQ.then next Q (.panic v) fr H := h
theorem blk_normal {i : Nat} (h : Q .normal fr H) : AQ.inBlock i Q .normal fr H := h
theorem blk_exit {i : Nat} (h : Q .normal fr H) : AQ.inBlock i Q (.exit i) fr H := by simp only [AQ.inBlock, if_true]; exact h
theorem blk_exit_ne {i j : Nat} (hne : Nat.beq j i = false) (h : Q (.exit j) fr H) : AQ.inBlock i Q (.exit j) fr H := by
  have : j ≠ i := fun e => by subst e; simp at hne
  simp only [AQ.inBlock, if_neg this]; exact h
theorem blk_goto {i j : Nat} (h : Q (.goto j) fr H) : AQ.inBlock i Q (.goto j) fr H := h
theorem blk_ret {i : Nat} (h : Q .ret fr H) : AQ.inBlock i Q .ret fr H := h
theorem blk_panic {i : Nat} {v : AV} (h : Q (.panic v) fr H) : AQ.inBlock i Q (.panic v) fr H := h
theorem AWp.condK {c : Operand} {x y : Code} {b : Bool} (hb : aeval G fr c = .bool b) (ht : b = true → AWp P G x fr H Q) (hf : b = false → AWp P G y fr H Q) : AWp P G (.cond c x y) fr H Q := AWp.cond hb ht hf
theorem AWp.condT {c : Operand} {x y : Code} (hb : aeval G fr c = .bool true) (ht : AWp P G x fr H Q) : AWp P G (.cond c x y) fr H Q := AWp.cond hb (fun _ => ht) (fun h => by cases h)
theorem AWp.condF {c : Operand} {x y : Code} (hb : aeval G fr c = .bool false) (hf : AWp P G y fr H Q) : AWp P G (.cond c x y) fr H Q := AWp.cond hb (fun h => by cases h) (fun _ => hf)
end
end Go.Proofs.Ax

namespace Go.Proofs.Ax
def FrAll : List (Nat × AV) → Fr → Prop
  | [], _ => True
  | (i, x) :: l, fr => fr.get i = x ∧ FrAll l fr
theorem FrLe.intro {fr2 fr : Fr} (h1 : fr2.n = fr.n) (h2 : fr2.d = fr.d) (h3 : FrAll fr2.s fr) : FrLe fr2 fr := by
  refine ⟨h1, h2, ?_⟩
  generalize fr2.s = l at h3
  induction l with
  | nil => intro p hp; cases hp
  | cons q l ih =>
    obtain ⟨i, x⟩ := q
    intro p hp
    rcases List.mem_cons.1 hp with rfl | hp
    · exact h3.1
    · exact ih h3.2 p hp
/-- A round's end: the next state, nothing dropped. -/
theorem round_end {σ : Type} {S : σ → Fr} {SH : σ → AH} {μ : σ → Nat} {x : σ} {fr : Fr} {H : AH} {n0 : Nat} (x' : σ) (hm : μ x' < μ x) (hH : H = SH x') (h1 : (S x').n = fr.n) (h2 : (S x').d = fr.d) (h3 : FrAll (S x').s fr) : ∃ x', μ x' < μ x ∧ KSt n0 fr H (S x') (SH x') := by
  subst hH
  exact ⟨x', hm, .le (.intro h1 h2 h3)⟩
end Go.Proofs.Ax

namespace Go.Proofs.Ax
theorem AOps.isLit {P : Program} {G : Glob} {ops : Array Oper} {rest : List Oper} {o : Oper} {fr : Fr} {H : AH} {Q : AQ} (b : Bool) {j t : Nat} {want : Bool} (hg : o.guard = some (j, want)) (ht : (ops[j]?).bind (·.dst) = some t) (hc : fr.get t = .bool b) (h : AOps P G ops (o :: rest) fr H Q) : AOps P G ops (o :: rest) fr H Q := h
end Go.Proofs.Ax
/- AX, part R: a region's operations, reckoned in one go, as far as they go. -/
set_option linter.unusedVariables false
set_option linter.unusedSimpArgs false
namespace Go.Proofs.Ax
open Go.RowKit

/-- Known both ways. -/
def gd (c want : Bool) (K1 K2 : Prop) : Prop := (c = want → K1) ∧ (c = !want → K2)

section
variable (P : Program) (T : Tab) (G : Glob) (ops : Array Oper) (Q : AQ)

/-- One operation that is carried out. -/
def stepP (o : Oper) (rest : List Oper) (fr : Fr) (H : AH) (K : Fr → AH → Prop) : Prop :=
  match astep T G fr H o.op with
  | some (p, v, H') => (match o.dst with | some d => Nat.blt d fr.n = true | none => True) ∧ p ∧ K (fr.put o.dst v) H'
  | none => AOps P G ops (o :: rest) fr H Q

def runP : List Oper → Fr → AH → Prop
  | [], fr, H => Q .normal fr H
  | o :: rest, fr, H =>
    match o.guard with
    | none => stepP P T G ops Q o rest fr H (runP rest)
    | some (j, want) =>
      match (ops[j]?).bind (·.dst) with
      | some t =>
        match fr.get t with
        | .bool c => Nat.blt t fr.n = true ∧ (match o.dst with | some d => Nat.blt d fr.n = true | none => True) ∧
            gd c want (stepP P T G ops Q o rest (fr.put (some t) (.bool want)) H (runP rest)) (runP rest ((fr.put (some t) (.bool (!want))).put o.dst (.tuple [])) H)
        | _ => AOps P G ops (o :: rest) fr H Q
      | none => AOps P G ops (o :: rest) fr H Q
end

section
variable {P : Program} {T : Tab} {G : Glob} {ops : Array Oper} {Q : AQ} {fr : Fr} {H : AH}

theorem dst_of {o : Oper} {n : Nat} (h : match o.dst with | some d => Nat.blt d n = true | none => True) : dstOk o n := by
  intro d hd
  rw [hd] at h
  simpa [Nat.blt_eq] using h

theorem stepP_ok (hT : T.ok P = true) {o : Oper} {rest : List Oper} {K : Fr → AH → Prop} (hw : wantedA ops fr o true) (hK : ∀ fr' H', K fr' H' → AOps P G ops rest fr' H' Q) (h : stepP P T G ops Q o rest fr H K) : AOps P G ops (o :: rest) fr H Q := by
  unfold stepP at h
  split at h
  · rename_i p v H' hs
    obtain ⟨h1, h2, h3⟩ := h
    exact AOps.step hT hw (dst_of h1) hs h2 (hK _ _ h3)
  · exact h

theorem get_put_same (fr : Fr) (t : Nat) (v : AV) : (fr.put (some t) v).get t = v := by simp [Fr.put, Fr.get, List.lookup]

theorem runP_ok (hT : T.ok P = true) : ∀ (rest : List Oper) (fr : Fr) (H : AH), runP P T G ops Q rest fr H → AOps P G ops rest fr H Q := by
  intro rest
  induction rest with
  | nil => intro fr H h; exact AOps.nil h
  | cons o rest ih =>
    intro fr H h
    unfold runP at h
    split at h
    · rename_i hg
      exact stepP_ok hT (wanted_none hg) (fun fr' H' => ih fr' H') h
    · rename_i j want hg
      split at h
      · rename_i t ht
        split at h
        · rename_i c hc
          obtain ⟨h1, h2, h3, h4⟩ := h
          have hs : ∀ b, { fr with s := (t, .bool b) :: fr.s } = fr.put (some t) (.bool b) := fun b => rfl
          refine AOps.split t hc (fun hb => ?_) (fun hb => ?_)
          · subst hb
            rw [hs]
            cases want with
            | true => exact stepP_ok hT (wanted_some hg ht (get_put_same _ _ _) h1 rfl) (fun fr' H' => ih fr' H') (h3 rfl)
            | false => exact AOps.skip (wanted_some hg ht (get_put_same _ _ _) h1 rfl) (dst_of h2) (ih _ _ (h4 rfl))
          · subst hb
            rw [hs]
            cases want with
            | true => exact AOps.skip (wanted_some hg ht (get_put_same _ _ _) h1 rfl) (dst_of h2) (ih _ _ (h4 rfl))
            | false => exact stepP_ok hT (wanted_some hg ht (get_put_same _ _ _) h1 rfl) (fun fr' H' => ih fr' H') (h3 rfl)
        · exact h
      · exact h

def condP (P : Program) (G : Glob) (x y : Code) (fr : Fr) (H : AH) (Q : AQ) : AV → Prop
  | .bool b => (b = true → AWp P G x fr H Q) ∧ (b = false → AWp P G y fr H Q)
  | _ => False
theorem AWp.condR {c : Operand} {x y : Code} (h : condP P G x y fr H Q (aeval G fr c)) : AWp P G (.cond c x y) fr H Q := by
  unfold condP at h
  split at h
  · rename_i b hb; exact AWp.cond hb h.1 h.2
  · exact h.elim

/-! how the words of the walk reduce -/
theorem get_cons_same (s : List (Nat × AV)) (n i : Nat) (d : List ADef) (x : AV) : (Fr.mk ((i, x) :: s) n d).get i = x := by simp [Fr.get, List.lookup]
theorem get_cons_ne {s : List (Nat × AV)} {n i j : Nat} {d : List ADef} {x : AV} (h : Nat.beq i j = false) : (Fr.mk ((j, x) :: s) n d).get i = (Fr.mk s n d).get i := by
  have e : (i == j) = false := by
    rw [beq_eq_false_iff_ne]
    intro hh
    subst hh
    simp at h
  simp [Fr.get, List.lookup, e]
theorem gd_t (want : Bool) (K1 K2 : Prop) : gd want want K1 K2 = K1 := by cases want <;> simp [gd]
theorem gd_tf (K1 K2 : Prop) : gd true false K1 K2 = K2 := by simp [gd]
theorem gd_ft (K1 K2 : Prop) : gd false true K1 K2 = K2 := by simp [gd]
end
end Go.Proofs.Ax

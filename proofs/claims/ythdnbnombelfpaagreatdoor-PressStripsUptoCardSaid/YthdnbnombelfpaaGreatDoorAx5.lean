import Derived.Test.YthdnbnombelfpaaGreatDoorAx4
import Derived.Lib.Builder
/- AX, part O2: parts of own rows; clear; Builder's operations. -/
set_option linter.unusedVariables false
set_option linter.unusedSimpArgs false
namespace Go.Proofs.Ax
open Go.RowKit

section
variable {P : Program} {G : Glob} {o : Oper} {fr : Fr} {H : AH}

/-- Cells written into a block of the call's own. -/
theorem write_flat {κ : Kap} {I : Nat → Prop} {w : World} (hr : HRel κ I H w) {id e sz : Nat} {elems elems' : List (List AV)} (hB : H[id]? = some (.row e sz elems)) {c : Conc} (hc : κ id = some c) {b m cp : Nat} (e1 : c.hdr = .slice (some ⟨b, 0, none⟩) m cp)
    (news : List Value) (p : Nat) (q2 : ∀ u ∈ news, u.oneCell' = true) (hp : p + news.length ≤ elems.length * sz) (hl : elems'.length = elems.length) (hs : ∀ el ∈ elems', el.length = sz)
    (hf : ∀ (j : Nat) x, elems'.flatten[j]? = some x → if p ≤ j ∧ j < p + news.length then VR I w κ x (news.getD (j - p) undef) else elems.flatten[j]? = some x) :
    ∃ κ' w', (storeCells ⟨b, p, none⟩ news).run P w = .ok () w' ∧ HRel κ' I (H.set id (.row e sz elems')) w' ∧ Stp κ I H w κ' I (H.set id (.row e sz elems')) w' := by
  obtain ⟨c', us, hc', h1, h2, ⟨h3, h4⟩, h5, h6, h7⟩ := hr.ok id _ hB
  obtain rfl : c' = c := by rw [hc] at hc'; cases hc'; rfl
  rcases h4 with ⟨e3, _⟩ | ⟨g, cap, cur, e3, e4, e5, e6, e7, e8, e9⟩
  · rw [e1] at e3; cases e3
  · rw [e1] at e3
    cases e3
    have hcapsz : elems.length * sz ≤ cp * sz := Nat.mul_le_mul_right _ e6
    obtain ⟨cur', r1, r2, r3⟩ := run_storeCells P b e news p cur w 0 e5 (by omega) q2
    simp only [Nat.add_zero] at r3
    have hrun : (storeCells ⟨b, p, none⟩ news).run P w = .ok () (w.setRow b cur') := by
      exact r1
    have hown' : ∀ b', b' < w.heap.size → hblk c'.hdr ≠ some b' → (w.setRow b cur').heap[b']? = w.heap[b']? := by
      intro b' _ hne
      refine setRow_other w b b' cur' (fun ee => hne ?_)
      rw [e1, ee]
      rfl
    have hxx : Ext κ (upd κ id c') := by
      intro j y hy
      by_cases ee : j = id
      · subst ee
        rw [hc] at hy; cases hy
        exact ⟨_, upd_same _ _ _, Nat.le_refl _, fun _ => rfl⟩
      · exact ⟨y, by rw [upd_ne _ _ ee]; exact hy, Nat.le_refl _, fun _ => rfl⟩
    have hImm : ∀ b', I b' → (w.setRow b cur').heap[b']? = w.heap[b']? := fun b' hb' => by
      refine hown' b' (hr.sep b' hb').1 fun ee => (hr.sep b' hb').2 ⟨id, _, c', hB, rfl, hc, ee⟩
    have hnews : ∀ j, (cur'.toList.take (elems.length * sz))[j]? = if p ≤ j ∧ j < p + news.length then news[j - p]? else us[j]? := by
      intro j
      rw [List.getElem?_take, ← e9, List.getElem?_take]
      by_cases hj : j < elems.length * sz
      · rw [if_pos hj, if_pos hj, Array.getElem?_toList, r3 j]; simp only [Array.getElem?_toList]
      · rw [if_neg hj, if_neg hj, if_neg (by omega)]
    have hBk : BOk I (w.setRow b cur') (upd κ id c') id (.row e sz elems') := by
      refine ⟨c', cur'.toList.take (elems.length * sz), upd_same _ _ _, by rw [hl]; exact h1, h2,
        ⟨by rw [hl]; simp; omega, .inr ⟨b, cp, cur', by rw [hl]; exact e1, Nat.zero_le _, setRow_heap w b cur cur' e (0, 0) e5, by rw [hl]; exact e6, e7, by rw [r2]; exact e8, by rw [hl]⟩⟩,
        hs, fun u' hu' => ?_, fun j y hj => ?_⟩
      · obtain ⟨j, hj, rfl⟩ := List.mem_iff_getElem.1 hu'
        have hj2 := hnews j
        rw [List.getElem?_eq_getElem hj] at hj2
        split at hj2
        · exact q2 _ (List.mem_of_getElem? hj2.symm)
        · exact h6 _ (List.mem_of_getElem? hj2.symm)
      · have hj3 := hf j y hj
        have hj2 := hnews j
        split at hj3
        · rename_i hc1
          rw [if_pos hc1] at hj2
          have := hj3.mono (fun _ h => h) hImm hxx
          rw [List.getD_eq_getElem?_getD, hj2, ← List.getD_eq_getElem?_getD]
          exact this
        · rename_i hc1
          rw [if_neg hc1] at hj2
          have := (h7 _ y hj3).mono (fun _ h => h) hImm hxx
          rw [List.getD_eq_getElem?_getD, hj2, ← List.getD_eq_getElem?_getD]
          exact this
    obtain ⟨m1, m2⟩ := hr.write (w' := w.setRow b cur') (c := c') hB rfl hc rfl rfl rfl (by simp) hown' (Nat.le_refl _) (fun _ => rfl) (fun b' hb' => .inr hb') hBk
    exact ⟨_, _, hrun, m1, m2⟩

/-- A part of a row of the call's own. -/
theorem op_slice_own {t : Nat} {x : Operand} {lo hi : Option Operand} (ho : o.op = .slice t x lo hi none) {i j : TI} (hi' : TyIs P t i) {e : Nat} (hd : i.d = .slice e) (hj : TyIs P e j) {id st e' sz : Nat} {elems : List (List AV)}
    (hx : aeval G fr x = .slice id st) (hB : H[id]? = some (.row e' sz elems)) (hsz : sz = j.size) (hst : st = elems.length) {l h : Nat} (hl : optI G fr lo 0 = some (l : Int)) (hh : optI G fr hi st = some (h : Int)) (h1 : l ≤ h) (h2 : h ≤ st) :
    OpOk P G o fr H (if l = 0 ∧ h = st then .slice id st else .sub id st l (h - l)) H :=
  .here fun κ I a w hg hr hf => by
    have hv := aeval_vr hg hf x
    rw [hx] at hv
    generalize ha : a.eval x = v at hv
    obtain ⟨c, us, hc, q1, q2, ⟨q3, q4⟩, q5, q6, q7⟩ := hr.ok id _ hB
    cases hv with
    | slice c' hc' hst' hl' h' =>
      obtain rfl : c' = c := by rw [hc] at hc'; cases hc'; rfl
      have hh' := h' (by omega)
      have hsl := hi'.slice hd
      rcases q4 with ⟨e3, e4⟩ | ⟨g, cap, cur, e3, e4, e5, e6, e7, e8, e9⟩
      · have hst0 : st = 0 := by omega
        have hl0 : l = 0 := by omega
        have hh0 : h = 0 := by omega
        subst hl0 hh0
        rw [e3] at hh'
        subst hh'
        have hb := run_bounds (P := P) (w := w) hg hf (isS := true) (len := 0) (cap := 0) hl (by rw [hst0] at hh; exact hh) (by omega) (by omega) (by omega)
        refine ⟨.slice none 0 0, ?_, ?_⟩
        · simp [execOp, ho, ha, Instr.sliceAt, Instr.slice, run_underlying hsl, hb, hj.run_size]
        · rw [if_pos ⟨rfl, by omega⟩]
          exact .slice c' hc hst' ⟨_, _, by rw [hst0]⟩ fun _ => e3.symm
      · rw [e3] at hh'
        subst hh'
        have hb := run_bounds (P := P) (w := w) hg hf (isS := true) (len := elems.length) (cap := cap) hl (by rw [hst] at hh; exact hh) (by omega) (by omega) (by omega)
        refine ⟨.slice (if cap = l then some ⟨g, 0, none⟩ else some ⟨g, l * j.size, none⟩) (h - l) (cap - l), ?_, ?_⟩
        · simp [execOp, ho, ha, Instr.sliceAt, Instr.slice, run_underlying hsl, hb, hj.run_size, cell_add]
        · by_cases hw : l = 0 ∧ h = st
          · rw [if_pos hw]
            obtain ⟨rfl, rfl⟩ := hw
            refine .slice c' hc hst' ⟨_, _, rfl⟩ fun _ => ?_
            rw [e3]
            simp
            exact hst
          · rw [if_neg hw]
            refine .sub c' hc hst' ⟨_, _, rfl⟩ fun _ => ?_
            refine ⟨g, _, cap, if cap = l then 0 else l * j.size, e3, ?_, by omega, fun hlt => ?_⟩
            · split <;> rfl
            · rw [if_neg (by omega), q2, hsz]

theorem op_indexAddr_sub {t : Nat} {x ix : Operand} (ho : o.op = .indexAddr t x ix) {i j : TI} (hi : TyIs P t i) {e : Nat} (hd : i.d = .slice e) (hj : TyIs P e j) {id st lo len : Nat} (hx : aeval G fr x = .sub id st lo len) {k : IntKind} {n : Nat} (hn : aeval G fr ix = .int k n)
    {e' sz : Nat} {elems : List (List AV)} (hB : H[id]? = some (.row e' sz elems)) (hsz : sz = j.size) (hst : st = elems.length) (h1 : n < len) : OpOk P G o fr H (.ptr id (lo + n) 0 st) H :=
  .here fun κ I a w hg hr hf => by
    have hv := aeval_vr hg hf x
    have hw := aeval_vr hg hf ix
    rw [hx] at hv; rw [hn] at hw
    generalize ha : a.eval x = v at hv
    generalize hb : a.eval ix = u at hw
    cases hw
    obtain ⟨c, us, hc, q1, q2, ⟨q3, q4⟩, q5, q6, q7⟩ := hr.ok id _ hB
    cases hv with
    | sub c' hc' hst' hl h =>
      obtain rfl : c' = c := by rw [hc] at hc'; cases hc'; rfl
      obtain ⟨b, m, cp, ov, e1, e2, e3, e4⟩ := h (by omega)
      rcases q4 with ⟨f3, f4⟩ | ⟨g, cap, cur, f3, f4, f5, f6, f7, f8, f9⟩
      · rw [e1] at f3; cases f3
      · rw [e1] at f3
        cases f3
        have hov := e4 (by omega)
        subst e2
        have hrun : (Instr.indexAt t (.slice (some ⟨b, ov, none⟩) len (cp - lo)) (.int k n)).run P w = .ok (.pointer (some ⟨b, ov + n * j.size, none⟩)) w := by
          simp [Instr.indexAt, asIntOf, run_underlying (hi.slice hd), h1, hj.run_size, cell_add]
        refine ⟨_, by simp [execOp, ho, ha, hb, hrun]; rfl, .ptr c' hc hst' ⟨_, rfl⟩ fun _ => ⟨b, _, cp, e1, ?_⟩⟩
        rw [hov, q2, hsz, Nat.add_mul]
        simp

theorem op_len_sub {t : Nat} {x : Operand} (ho : o.op = .call { callee := .builtin .len, args := #[x], argTypes := #[t] }) {i : TI} (hi : TyIs P t i) {e : Nat} (hd : i.d = .slice e) {id st lo len : Nat} (hx : aeval G fr x = .sub id st lo len) : OpOk P G o fr H (.int .i64 len) H :=
  .here fun κ I a w hg hr hf => by
    have hv := aeval_vr hg hf x
    rw [hx] at hv
    generalize ha : a.eval x = v at hv
    have hun := run_underlying (P := P) (hi.slice hd) w
    cases hv with
    | sub c hc hst hl h =>
      obtain ⟨ad, cp, rfl⟩ := hl
      refine ⟨.int .i64 len, ?_, .int⟩
      simp [execOp, ho, resolve, invoke, builtin, Builtin.len_, ha, hun, goInt]

def clearEl (zs : List AV) (lo len : Nat) (elems : List (List AV)) : List (List AV) := elems.take lo ++ List.replicate len zs ++ elems.drop (lo + len)
theorem clear_flat {zs : List AV} {sz lo len : Nat} {elems : List (List AV)} (hz : zs.length = sz) (he : ∀ el ∈ elems, el.length = sz) (hl : lo + len ≤ elems.length) :
    (clearEl zs lo len elems).length = elems.length ∧ (∀ el ∈ clearEl zs lo len elems, el.length = sz) ∧
    ∀ (j : Nat), (clearEl zs lo len elems).flatten[j]? = if lo * sz ≤ j ∧ j < lo * sz + len * sz then zs[(j - lo * sz) % sz]? else elems.flatten[j]? := by
  have h1 : (clearEl zs lo len elems).length = elems.length := by simp [clearEl]; omega
  have h2 : ∀ el ∈ clearEl zs lo len elems, el.length = sz := by
    intro el hel
    simp only [clearEl, List.mem_append] at hel
    rcases hel with (hel | hel) | hel
    · exact he el (List.mem_of_mem_take hel)
    · rw [(List.mem_replicate.1 hel).2]; exact hz
    · exact he el (List.mem_of_mem_drop hel)
  refine ⟨h1, h2, fun j => ?_⟩
  by_cases hsz : sz = 0
  · subst hsz
    have e0 : ∀ (l : List (List AV)), (∀ el ∈ l, el.length = 0) → l.flatten = [] := by
      intro l hl
      exact List.flatten_eq_nil_iff.2 fun x hx => List.eq_nil_of_length_eq_zero (hl x hx)
    rw [e0 _ h2, e0 _ he, if_neg (by omega)]
  · by_cases hj : j < elems.length * sz
    · have hq : j = (j / sz) * sz + j % sz := by rw [Nat.mul_comm]; exact (Nat.div_add_mod j sz).symm
      have hk : j / sz < elems.length := Nat.div_lt_of_lt_mul (by rw [Nat.mul_comm]; exact hj)
      have hm : j % sz < sz := Nat.mod_lt _ (by omega)
      have hL : (clearEl zs lo len elems).flatten[j]? = ((clearEl zs lo len elems).getD (j / sz) [])[j % sz]? := by
        conv => lhs; rw [hq]
        exact flat_get h2 (by rw [h1]; exact hk) hm
      have hR : elems.flatten[j]? = (elems.getD (j / sz) [])[j % sz]? := by
        conv => lhs; rw [hq]
        exact flat_get he hk hm
      rw [hL]
      by_cases hc : lo * sz ≤ j ∧ j < lo * sz + len * sz
      · rw [if_pos hc]
        have c1 : lo ≤ j / sz := (Nat.le_div_iff_mul_le (by omega)).2 hc.1
        have c2 : j / sz < lo + len := Nat.div_lt_of_lt_mul (by rw [Nat.mul_add, Nat.mul_comm sz lo, Nat.mul_comm sz len]; exact hc.2)
        have : (clearEl zs lo len elems).getD (j / sz) [] = zs := by
          simp only [clearEl, List.getD, List.append_assoc]
          rw [List.getElem?_append_right (by simp; omega), List.getElem?_append_left (by simp; omega)]
          rw [List.getElem?_replicate, if_pos (by simp; omega)]
          rfl
        rw [this]
        congr 1
        rw [Nat.mul_comm lo sz]
        exact (Nat.sub_mul_mod (by rw [Nat.mul_comm]; exact hc.1)).symm
      · rw [if_neg hc, hR]
        congr 1
        simp only [clearEl, List.getD]
        by_cases c1 : j / sz < lo
        · rw [List.append_assoc, List.getElem?_append_left (by simp; omega), List.getElem?_take, if_pos c1]
        · have c2 : lo + len ≤ j / sz := by
            rcases Nat.lt_or_ge (j / sz) (lo + len) with h | h
            · exfalso
              apply hc
              refine ⟨?_, ?_⟩
              · have := (Nat.le_div_iff_mul_le (by omega)).1 (Nat.le_of_not_lt c1)
                exact this
              · have := (Nat.div_lt_iff_lt_mul (show 0 < sz by omega)).1 h
                rw [Nat.add_mul] at this
                exact this
            · exact h
          have hlen : (elems.take lo ++ List.replicate len zs).length = lo + len := by simp; omega
          rw [List.getElem?_append_right (by rw [hlen]; exact c2), List.getElem?_drop, hlen]
          congr 2
          omega
    · rw [if_neg (by
        intro h
        apply hj
        have : (lo + len) * sz ≤ elems.length * sz := Nat.mul_le_mul_right _ hl
        rw [Nat.add_mul] at this
        omega), List.getElem?_eq_none (by rw [flat_len h2, h1]; omega), List.getElem?_eq_none (by rw [flat_len he]; omega)]

theorem clear_core {t : Nat} {x : Operand} (ho : o.op = .call { callee := .builtin .clear, args := #[x], argTypes := #[t] }) {i j : TI} (hi : TyIs P t i) {e : Nat} (hd : i.d = .slice e) (hj : TyIs P e j) {id st lo len e' sz : Nat} {elems : List (List AV)}
    (hx : ∀ κ I a w, GRel I w G → HRel κ I H w → FRel I w κ fr a → VR I w κ (.sub id st lo len) (a.eval x)) (hB : H[id]? = some (.row e' sz elems)) (hsz : sz = j.size) (hst : st = elems.length) (hl0 : 0 < len) (hlen : lo + len ≤ st) :
    OpOk P G o fr H (.tuple []) (H.set id (.row e' sz (clearEl (j.zero.map ZV.av) lo len elems))) := by
  intro κ I a w hg hr hf
  have hv := hx κ I a w hg hr hf
  generalize ha : a.eval x = v at hv
  obtain ⟨c, us, hc, q1, q2, ⟨q3, q4⟩, q5, q6, q7⟩ := hr.ok id _ hB
  cases hv with
  | sub c' hc' hst' hl h =>
    obtain rfl : c' = c := by rw [hc] at hc'; cases hc'; rfl
    obtain ⟨b, m, cp, ov, e1, e2, e3, e4⟩ := h (by omega)
    rcases q4 with ⟨f3, f4⟩ | ⟨g, cap, cur, f3, f4, f5, f6, f7, f8, f9⟩
    · rw [e1] at f3; cases f3
    · rw [e1] at f3
      cases f3
      have hov : ov = lo * sz := by rw [e4 (by omega), q2]
      subst e2
      obtain ⟨jj, h1, h2, h3, z, h4, h5, h6, h7, h8⟩ := hj.info
      have ez : z.cells = ⟨j.zero.map ZV.val⟩ := by rw [← h5]
      have hzl := hj.zlen
      have hsz2 : (j.zero.map ZV.val).length = sz := by simp [hzl, hsz]
      let news : List Value := (Builtin.zeroCells z.cells len).toList
      have hnl : news.length = len * sz := by simp [news, Builtin.zeroCells, ez, hzl, hsz]
      have hng : ∀ q, q < len * sz → news[q]? = (j.zero.map ZV.val)[q % sz]? := by
        intro q hq
        have hs0 : sz ≠ 0 := fun hh => by rw [hh] at hq; omega
        have hmod : q % sz < sz := Nat.mod_lt _ (by omega)
        have hq' : q < len * (j.zero.map ZV.val).length := by rw [hsz2]; exact hq
        simp only [news, Builtin.zeroCells, ez, Array.toList_map, Array.toList_range, List.getElem?_map]
        rw [List.getElem?_range (by simpa using hq')]
        simp only [Option.map_some]
        have e5 : (⟨j.zero.map ZV.val⟩ : Array Value).size = sz := hsz2
        rw [e5]
        rw [getElem!_pos (⟨j.zero.map ZV.val⟩ : Array Value) (q % sz) (by rw [e5]; exact hmod)]
        have hm3 : q % sz < j.zero.length := by rw [hzl, ← hsz]; exact hmod
        rw [List.getElem?_eq_getElem hm3]
        simp
      obtain ⟨c1, c2, c3⟩ := clear_flat (zs := j.zero.map ZV.av) (sz := sz) (lo := lo) (len := len) (elems := elems) (by simp [hzl, hsz]) q5 (by omega)
      obtain ⟨κ', w', r1, r2, r3⟩ := write_flat (P := P) hr hB hc e1 news (lo * sz) (by
          intro u hu
          obtain ⟨q, hq, rfl⟩ := List.mem_iff_getElem.1 hu
          have := hng q (by rw [← hnl]; exact hq)
          rw [List.getElem?_eq_getElem hq] at this
          obtain ⟨y, _, hy⟩ := List.mem_map.1 (List.mem_of_getElem? this.symm)
          rw [← hy]
          exact y.one) (by rw [hnl, ← Nat.add_mul]; exact Nat.mul_le_mul_right _ (by omega)) c1 c2 (fun q x hq => by
          rw [c3 q] at hq
          rw [hnl]
          split at hq
          · rename_i hcc
            rw [if_pos hcc]
            have hm := hng (q - lo * sz) (by omega)
            rw [List.getElem?_map] at hq
            obtain ⟨y, hy, rfl⟩ := Option.map_eq_some_iff.1 hq
            rw [List.getD_eq_getElem?_getD, hm, List.getElem?_map, hy]
            exact y.vr
          · rename_i hcc
            rw [if_neg hcc]
            exact hq)
      refine ⟨.tuple #[], κ', I, w', .inl ?_, .tuple (us := []) rfl (fun i x hx => by simp at hx), r2, r3⟩
      have hun := run_underlying (P := P) (hi.slice hd) w
      have hne : len ≠ 0 := by omega
      have hzv : (zeroValue e).run P w = .ok z w := by simp [zeroValue, typeInfo, h1, h4]
      have hcl : (Builtin.clear_ #[t] o.type #[.slice (some ⟨b, ov, none⟩) len (cp - lo)]).run P w = .ok (.tuple #[]) w' := by
        cases len with
        | zero => omega
        | succ k =>
          simp only [Builtin.clear_]
          simp [hun, hzv]
          rw [hov]
          rw [r1]
          rfl
      simp [execOp, ho, resolve, invoke, builtin, ha, hcl]
theorem op_clear_sub {t : Nat} {x : Operand} (ho : o.op = .call { callee := .builtin .clear, args := #[x], argTypes := #[t] }) {i j : TI} (hi : TyIs P t i) {e : Nat} (hd : i.d = .slice e) (hj : TyIs P e j) {id st lo len e' sz : Nat} {elems : List (List AV)}
    (hx : aeval G fr x = .sub id st lo len) (hB : H[id]? = some (.row e' sz elems)) (hsz : sz = j.size) (hst : st = elems.length) (hl0 : 0 < len) (hlen : lo + len ≤ st) :
    OpOk P G o fr H (.tuple []) (H.set id (.row e' sz (clearEl (j.zero.map ZV.av) lo len elems))) :=
  clear_core ho hi hd hj (fun κ I a w hg hr hf => by have := aeval_vr hg hf x; rwa [hx] at this) hB hsz hst hl0 hlen
/-- A whole row is a part of itself. -/
theorem vr_whole {κ : Kap} {I : Nat → Prop} {w : World} (hr : HRel κ I H w) {id st e sz : Nat} {elems : List (List AV)} {v : Value} (hB : H[id]? = some (.row e sz elems)) (hst : st = elems.length) (h0 : 0 < st) (hv : VR I w κ (.slice id st) v) :
    VR I w κ (.sub id st 0 st) v ∧ ∃ g cap, v = .slice (some ⟨g, 0, none⟩) st cap := by
  obtain ⟨c, us, hc, q1, q2, ⟨q3, q4⟩, q5, q6, q7⟩ := hr.ok id _ hB
  cases hv with
  | slice c' hc' hst' hl h =>
    obtain rfl : c' = c := by rw [hc] at hc'; cases hc'; rfl
    have hh := h (by omega)
    rcases q4 with ⟨e3, e4⟩ | ⟨g, cap, cur, e3, e4, e5, e6, e7, e8, e9⟩
    · omega
    · rw [e3] at hh
      subst hh
      rw [← hst]
      exact ⟨.sub c' hc hst' ⟨_, _, rfl⟩ fun _ => ⟨g, _, cap, 0, e3, by simp, by omega, fun _ => by simp⟩, g, cap, rfl⟩
theorem op_clear_own {t : Nat} {x : Operand} (ho : o.op = .call { callee := .builtin .clear, args := #[x], argTypes := #[t] }) {i j : TI} (hi : TyIs P t i) {e : Nat} (hd : i.d = .slice e) (hj : TyIs P e j) {id st e' sz : Nat} {elems : List (List AV)}
    (hx : aeval G fr x = .slice id st) (hB : H[id]? = some (.row e' sz elems)) (hsz : sz = j.size) (hst : st = elems.length) (h0 : 0 < st) :
    OpOk P G o fr H (.tuple []) (H.set id (.row e' sz (clearEl (j.zero.map ZV.av) 0 st elems))) :=
  clear_core ho hi hd hj (fun κ I a w hg hr hf => by have := aeval_vr hg hf x; rw [hx] at this; exact (vr_whole hr hB hst h0 this).1) hB hsz hst h0 (by omega)
theorem op_eqnil_own {op : BinOp} {t u : Nat} {x y : Operand} (ho : o.op = .binOp op t x y u) (hop : op = .eql ∨ op = .neq) {i : TI} (hi : TyIs P t i) {e : Nat} (hd : i.d = .slice e) {id st e' sz : Nat} {elems : List (List AV)}
    (hx : aeval G fr x = .slice id st) (hy : aeval G fr y = .nils) (hB : H[id]? = some (.row e' sz elems)) (hst : st = elems.length) (h0 : 0 < st) : OpOk P G o fr H (.bool (eqB op false)) H :=
  .here fun κ I a w hg hr hf => by
    have hv := aeval_vr hg hf x
    have hw := aeval_vr hg hf y
    rw [hx] at hv; rw [hy] at hw
    obtain ⟨_, g, cap, e1⟩ := vr_whole hr hB hst h0 hv
    generalize hb : a.eval y = u at hw
    cases hw
    have hsl := hi.slice hd
    have hgd : ∀ xo yo, eqGuard op t xo yo (.slice (some ⟨g, 0, none⟩) st cap) (.slice none 0 0) = pure () := by
      intro xo yo
      rcases hop with rfl | rfl <;> rfl
    have h := fun d : Nat => show (Op.equalIn (d + 1) t (.slice (some ⟨g, 0, none⟩) st cap) (.slice none 0 0)).run P w = .ok false w by
      simp [Op.equalIn, run_underlying hsl]
    have he := run_equal_of h
    refine ⟨.bool (eqB op false), ?_, .bool⟩
    rcases hop with rfl | rfl
    · simp only [execOp, ho, hb, e1, hgd, Sem.run_bind, Sem.run_pure, Result.andThen_ok, binOp]
      simp [he, eqB]
    · simp only [execOp, ho, hb, e1, hgd, Sem.run_bind, Sem.run_pure, Result.andThen_ok, binOp]
      simp [he, eqB]
end
end Go.Proofs.Ax

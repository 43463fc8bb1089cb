import Derived.Test.YthdnbnombelfpaaGreatDoorAx7
import Derived.Test.YthdnbnombelfpaaGreatDoorAx6
import Derived.Orders
/- AX, part U: regions whose operations come in any order. -/
set_option linter.unusedVariables false
set_option linter.unusedSimpArgs false
namespace Go.Proofs.Ax
open Go.RowKit

theorem wpOp_monoQ {P : Program} {ops : Array Oper} {Q Q' : Exit → Act → World → Prop} {K K' : Act → World → Prop} {i : Nat} {a : Act} {w : World} (hK : ∀ a w, K a w → K' a w) (hQ : ∀ e a w, Q e a w → Q' e a w) (h : wpOp P ops Q i K a w) : wpOp P ops Q' i K' a w := by
  unfold wpOp at *
  split
  · rename_i ho; simp only [ho] at h; exact hK _ _ h
  · rename_i o ho
    simp only [ho] at h
    split
    · rename_i hw
      rw [if_pos hw] at h
      rcases h with h | ⟨h, x, y, hxy⟩
      · exact .inl (upon_mono hK hQ h)
      · exact .inr ⟨h, x, y, hQ _ _ _ hxy⟩
    · rename_i hw
      rw [if_neg hw] at h
      exact hK _ _ h
theorem wpAny_monoQ {P : Program} {ops : Array Oper} {Q Q' : Exit → Act → World → Prop} (hQ : ∀ e a w, Q e a w → Q' e a w) : ∀ (fuel : Nat) (listed : Array Bool) (a : Act) (w : World), wpAny P .any ops Q fuel listed a w → wpAny P .any ops Q' fuel listed a w := by
  intro fuel
  induction fuel with
  | zero => intro l a w h; exact ⟨h.1, hQ _ _ _ h.2⟩
  | succ n ih => intro l a w h; exact ⟨fun e => hQ _ _ _ (h.1 e), fun i hi => wpOp_monoQ (fun a w => ih _ a w) hQ (h.2 i hi)⟩

/-- The first m operations have been carried out, of n. -/
def lis (m n : Nat) : Array Bool := ⟨(List.range n).map fun i => Nat.blt i m⟩
theorem lis_getD (m n i : Nat) (d : Bool) : (lis m n).getD i d = if i < n then Nat.blt i m else d := by
  rw [Array.getD_eq_getD_getElem?]
  simp only [lis, List.getElem?_toArray, List.getElem?_map]
  split
  · rename_i h; simp [h]
  · rename_i h; simp [h]
theorem lis_size (m n : Nat) : (lis m n).size = n := by simp [lis]
theorem lis_zero (n : Nat) : Array.replicate n false = lis 0 n := by
  apply Array.ext
  · simp [lis]
  · intro i h1 h2
    simp only [lis, List.getElem_toArray, Array.getElem_replicate, List.getElem_map, List.getElem_range]
    cases h : Nat.blt i 0 with
    | false => rfl
    | true => rw [Nat.blt_eq] at h; omega
theorem lis_set {m n : Nat} (h : m < n) : (lis m n).setIfInBounds m true = lis (m + 1) n := by
  apply Array.ext
  · simp [lis]
  · intro i h1 h2
    have hi : i < n := by simpa [lis] using h2
    have e1 : ((lis m n).setIfInBounds m true)[i] = ((lis m n).setIfInBounds m true).getD i false := by rw [Array.getD_eq_getD_getElem?, Array.getElem?_eq_getElem h1]; rfl
    have e2 : (lis (m + 1) n)[i] = (lis (m + 1) n).getD i false := by rw [Array.getD_eq_getD_getElem?, Array.getElem?_eq_getElem h2]; rfl
    rw [e1, e2, lis_getD, if_pos hi]
    by_cases e : m = i
    · subst e
      have : m < (lis m n).size := by simpa [lis] using hi
      simp [this]
    · rw [getD_set_ne false e, lis_getD, if_pos hi]
      rw [Bool.eq_iff_iff, Nat.blt_eq, Nat.blt_eq]
      omega

def bnd (e : Edge) : Bool :=
  match e.ground with
  | .textOnly _ => false
  | .gcOnly _ => false
  | _ => true
theorem bnd_eq (e : Edge) : Region.binds .any e = bnd e := by
  unfold Region.binds bnd
  split <;> simp_all <;> rfl

def preds (o : Oper) : List Nat := (o.after.toList.filter bnd).map (·.on)
theorem mem_preds {o : Oper} {k : Nat} : k ∈ preds o ↔ ∃ e ∈ o.after, Region.binds .any e = true ∧ e.on = k := by
  unfold preds
  simp only [List.mem_map, List.mem_filter, Array.mem_toList_iff, bnd_eq]
  constructor
  · rintro ⟨e, ⟨h1, h2⟩, h3⟩; exact ⟨e, h1, h2, h3⟩
  · rintro ⟨e, h1, h2, h3⟩; exact ⟨e, ⟨h1, h2⟩, h3⟩

theorem ready_iff {ops : Array Oper} {listed : Array Bool} {j : Nat} : j ∈ Region.ready .any ops listed ↔ listed.getD j true = false ∧ ∃ o, ops[j]? = some o ∧ ∀ k ∈ preds o, listed.getD k false = true := by
  rw [mem_ready]
  constructor
  · rintro ⟨h0, o, ho, h⟩
    exact ⟨h0, o, ho, fun k hk => by obtain ⟨e, h1, h2, rfl⟩ := mem_preds.1 hk; exact h e h1 h2⟩
  · rintro ⟨h0, o, ho, h⟩
    exact ⟨h0, o, ho, fun e h1 h2 => h _ (mem_preds.2 ⟨e, h1, h2, rfl⟩)⟩

/-- What is ready, reckoned by lists. -/
def ready2 (ops : List Oper) (listed : Nat → Bool) : List Nat :=
  (List.range ops.length).filter fun i => !listed i && ((ops[i]?).map fun o => (preds o).all listed).getD false

section
variable {P : Program} {G : Glob} {ops : Array Oper} {rest : List Oper} {o : Oper} {fr : Fr} {H : AH} {Q : AQ}

def AAny (P : Program) (G : Glob) (ops : Array Oper) (fuel : Nat) (listed : Array Bool) (fr : Fr) (H : AH) (Q : AQ) : Prop :=
  ∀ κ I a w, GRel I w G → HRel κ I H w → FRel I w κ fr a → wpAny P .any ops (APost κ I H w Q) fuel listed a w

/-- From m on each operation waits for all that stand before it. -/
def serial (ops : List Oper) (m : Nat) : Bool :=
  (List.range ops.length).all fun j => Nat.blt j m || (((ops[j]?).map fun o => (preds o).all fun k => Nat.blt k j).getD false &&
    ((List.range ops.length).all fun i => !Nat.blt j i || ((ops[i]?).map fun o => (preds o).any fun k => Nat.ble j k && Nat.blt k ops.length).getD true))

theorem serial_ready {m j : Nat} (hs : serial ops.toList m = true) (hm : m ≤ j) (hj : j < ops.size) : j ∈ Region.ready .any ops (lis j ops.size) ∧ ∀ i ∈ Region.ready .any ops (lis j ops.size), i = j := by
  unfold serial at hs
  rw [List.all_eq_true] at hs
  have h1 := hs j (List.mem_range.2 (by simpa using hj))
  have e0 : Nat.blt j m = false := by
    cases h : Nat.blt j m with
    | false => rfl
    | true => rw [Nat.blt_eq] at h; omega
  rw [e0, Bool.false_or, Bool.and_eq_true] at h1
  obtain ⟨h1, h2⟩ := h1
  have hoj : ops.toList[j]? = some ops[j] := by simp [hj]
  rw [hoj, Option.map_some, Option.getD_some, List.all_eq_true] at h1
  refine ⟨ready_iff.2 ⟨?_, ops[j], by simp [hj], fun k hk => ?_⟩, fun i hi => ?_⟩
  · rw [lis_getD, if_pos hj]
    cases h : Nat.blt j j with
    | false => rfl
    | true => rw [Nat.blt_eq] at h; omega
  · have h3 := h1 k hk
    rw [Nat.blt_eq] at h3
    rw [lis_getD, if_pos (by omega)]
    simpa [Nat.blt_eq] using h3
  · obtain ⟨h3, o, ho, h4⟩ := ready_iff.1 hi
    have hi' : i < ops.size := (Array.getElem?_eq_some_iff.1 ho).1
    rw [lis_getD, if_pos hi'] at h3
    have h5 : ¬ i < j := fun hh => by rw [← Nat.blt_eq] at hh; rw [hh] at h3; cases h3
    by_cases e : i = j
    · exact e
    · rw [List.all_eq_true] at h2
      have h6 := h2 i (List.mem_range.2 (by simpa using hi'))
      have e1 : Nat.blt j i = true := by rw [Nat.blt_eq]; omega
      have ho' : ops.toList[i]? = some o := by simpa using ho
      rw [e1, ho', Bool.not_true, Bool.false_or, Option.map_some, Option.getD_some, List.any_eq_true] at h6
      obtain ⟨k, hk, hk'⟩ := h6
      rw [Bool.and_eq_true, Nat.ble_eq, Nat.blt_eq] at hk'
      have h7 := h4 k hk
      have : k < ops.size := by simpa using hk'.2
      rw [lis_getD, if_pos this, Nat.blt_eq] at h7
      omega

theorem wpAny_serial {Q : Exit → Act → World → Prop} {m : Nat} (hs : serial ops.toList m = true) : ∀ (n j : Nat), m ≤ j → j + n = ops.size → ∀ a w, wpList P ops Q (ops.toList.drop j) a w → wpAny P .any ops Q n (lis j ops.size) a w := by
  intro n
  induction n with
  | zero =>
    intro j hm hj a w h
    have e : ops.toList.drop j = [] := by apply List.drop_eq_nil_of_le; simp; omega
    rw [e] at h
    refine ⟨?_, h⟩
    rw [List.eq_nil_iff_forall_not_mem]
    intro i hi
    obtain ⟨h3, o, ho, h4⟩ := ready_iff.1 hi
    have hi' : i < ops.size := (Array.getElem?_eq_some_iff.1 ho).1
    rw [lis_getD, if_pos hi'] at h3
    have : Nat.blt i j = true := by rw [Nat.blt_eq]; omega
    rw [this] at h3; cases h3
  | succ n ih =>
    intro j hm hj a w h
    have hlt : j < ops.size := by omega
    obtain ⟨h1, h2⟩ := serial_ready hs hm hlt
    refine ⟨fun e => (by rw [e] at h1; cases h1), fun i hi => ?_⟩
    have := h2 i hi
    subst this
    have hd : ops.toList.drop i = ops[i] :: ops.toList.drop (i + 1) := by
      rw [List.drop_eq_getElem_cons (by simpa using hlt)]
      simp
    rw [hd] at h
    unfold wpOp
    have ho : ops[i]? = some ops[i] := by simp [hlt]
    simp only [ho]
    simp only [wpList] at h
    rw [lis_set hlt]
    have key : ∀ a w, wpList P ops Q (ops.toList.drop (i + 1)) a w → wpAny P .any ops Q n (lis (i + 1) ops.size) a w := ih (i + 1) (by omega) (by omega)
    split
    · rename_i hw
      rw [if_pos hw] at h
      exact h.imp (Oper.wp_mono key) id
    · rename_i hw
      rw [if_neg hw] at h
      exact key _ _ h

theorem AAny.serial {m : Nat} (hs : serial ops.toList m = true) (hm : m ≤ ops.size) (h : AOps P G ops (ops.toList.drop m) fr H Q) : AAny P G ops (ops.size - m) (lis m ops.size) fr H Q :=
  fun κ I a w hg hr hf => wpAny_serial hs _ m (Nat.le_refl _) (by omega) a w (h κ I a w hg hr hf)

/-! ### Operations that leave the heap as it was -/
/-- What is known of the slots that an operation looks at. -/
def Fr.only (fr : Fr) (l : List Nat) : Fr := { s := l.map fun t => (t, fr.get t), n := fr.n, d := fr.d }
def Quiet (P : Program) (G : Glob) (ops : Array Oper) (o : Oper) (fr : Fr) (H : AH) (v : AV) : Prop :=
  ∀ κ I a w (Q : Exit → Act → World → Prop) (K : Act → World → Prop), GRel I w G → HRel κ I H w → FRel I w κ (fr.only (o.looksAt ops)) a →
    (∀ u κ' I' w', HRel κ' I' H w' → VR I' w' κ' v u → Stp κ I H w κ' I' H w' → K (a.put o.dst u) w') →
    if Region.wanted o (yielded ops a.tmps) then o.wp P a w K Q ∨ (o.asks P a w ∧ LetsOut Q) else K (a.put o.dst undef) w

theorem only_lookup {l : List Nat} {fr : Fr} {t : Nat} {x : AV} (h : (fr.only l).s.lookup t = some x) : t ∈ l ∧ x = fr.get t := by
  have := lookup_mem h
  simp only [Fr.only, List.mem_map, Prod.mk.injEq] at this
  obtain ⟨k, hk, rfl, rfl⟩ := this
  exact ⟨hk, rfl⟩
theorem only_get {l : List Nat} {fr : Fr} {t : Nat} (h : t ∈ l) : (fr.only l).get t = fr.get t := by
  unfold Fr.get
  cases hk : (fr.only l).s.lookup t with
  | some x => rw [(only_lookup hk).2]; rfl
  | none =>
    exfalso
    simp only [Fr.only] at hk
    rw [List.lookup_eq_none_iff] at hk
    have := hk (t, fr.get t) (List.mem_map.2 ⟨t, h, rfl⟩)
    simp at this

theorem put_frel_dead {I : Nat → Prop} {w : World} {κ : Kap} : True := trivial

theorem Quiet.of_op {v : AV} (hw : wantedA ops (fr.only (o.looksAt ops)) o true) (ho : OpOk P G o (fr.only (o.looksAt ops)) H v H) : Quiet P G ops o fr H v := by
  intro κ I a w Q K hg hr hf hK
  rw [if_pos (wanted_run hf hw)]
  left
  obtain ⟨u, κ', I', w', h1, h2, h3, h4⟩ := ho κ I a w hg hr hf
  unfold Oper.wp
  have := hK u κ' I' w' h3 h2 h4
  rcases h1 with h1 | ⟨h1, rfl⟩ <;> rw [h1] <;> exact this
theorem Quiet.skip (hw : wantedA ops (fr.only (o.looksAt ops)) o false) : Quiet P G ops o fr H (.tuple []) := by
  intro κ I a w Q K hg hr hf hK
  rw [if_neg (by rw [wanted_run hf hw]; simp)]
  exact hK undef κ I w hr VR.undef (Stp.refl ..)


end
theorem VR.ren_id {I : Nat → Prop} {w : World} {κ : Kap} {x : AV} {v : Value} (h : VR I w κ x v) : ∀ {σ : Nat → Option Nat}, (∀ id, (κ id).isSome = true → σ id = some id) → x.ren σ = x := by
  have lists : ∀ {xs : List AV} {σ : Nat → Option Nat}, (∀ (i : Nat) x, xs[i]? = some x → x.ren σ = x) → AV.rens σ xs = xs := by
    intro xs σ h
    rw [AV.rens_eq]
    apply List.ext_getElem?
    intro i
    rw [List.getElem?_map]
    cases hx : xs[i]? with
    | none => rfl
    | some x => simp [h i x hx]
  induction h with
  | any | bool | int | str | nilp | lptr | nils | lit | nilf | nilm | nili => intro _ _; rfl
  | ptr c hc hst hp h => intro σ hσ; simp [AV.ren, hσ _ (by rw [hc]; rfl)]
  | slice c hc hst hl h => intro σ hσ; simp [AV.ren, hσ _ (by rw [hc]; rfl)]
  | obj c hc hv h => intro σ hσ; simp [AV.ren, hσ _ (by rw [hc]; rfl)]
  | sub c hc hst hl h => intro σ hσ; simp [AV.ren, hσ _ (by rw [hc]; rfl)]
  | yield c hc hv h => intro σ hσ; simp [AV.ren, hσ _ (by rw [hc]; rfl)]
  | clit _ _ => intro _ _; rfl
  | func h1 h2 _ _ ih3 ih4 =>
    intro σ hσ
    simp only [AV.ren]
    rw [lists fun i x hx => ih3 i x hx hσ, lists fun i x hx => ih4 i x hx hσ]
  | iface _ ih => intro σ hσ; simp only [AV.ren]; rw [ih hσ]
  | agg h1 _ ih => intro σ hσ; simp only [AV.ren]; rw [lists fun i x hx => ih i x hx hσ]
  | tuple h1 _ ih => intro σ hσ; simp only [AV.ren]; rw [lists fun i x hx => ih i x hx hσ]

theorem cells_ren_id {σ : Nat → Option Nat} : ∀ {elems : List (List AV)}, (∀ (j : Nat) x, elems.flatten[j]? = some x → x.ren σ = x) → elems.map (AV.rens σ) = elems := by
  intro elems h
  have h' : ∀ x ∈ elems.flatten, x.ren σ = x := fun x hx => by
    obtain ⟨j, hj⟩ := List.getElem?_of_mem hx
    exact h j x hj
  conv => rhs; rw [← List.map_id elems]
  apply List.map_congr_left
  intro el hel
  rw [AV.rens_eq]
  conv => rhs; rw [id, ← List.map_id el]
  apply List.map_congr_left
  intro x hx
  exact h' x (List.mem_flatten.2 ⟨el, hel, hx⟩)

theorem BOk.ren_id {I : Nat → Prop} {w : World} {κ : Kap} {id : Nat} {B : AB} (h : BOk I w κ id B) {σ : Nat → Option Nat} (hσ : ∀ id, (κ id).isSome = true → σ id = some id) : B.ren σ = B := by
  cases B with
  | dead => rfl
  | row e sz elems =>
    obtain ⟨c, us, hc, h1, h2, h3, h4, h5, h6⟩ := h
    simp only [AB.ren]
    rw [cells_ren_id fun j x hx => (h6 j x hx).ren_id hσ]
  | map entries clock =>
    obtain ⟨c, r, es, hc, h1, h2, h3, h4, h5⟩ := h
    simp only [AB.ren, AB.map.injEq, and_true]
    conv => rhs; rw [← List.map_id entries]
    apply List.map_congr_left
    rintro ⟨k, v, b⟩ hx
    obtain ⟨j, hj⟩ := List.getElem?_of_mem hx
    show (k.ren σ, v.ren σ, b) = (k, v, b)
    rw [(h5 j k v b hj).1.ren_id hσ, (h5 j k v b hj).2.1.ren_id hσ]
  | iterS s pos => rfl
  | iterM mid since n cur last =>
    obtain ⟨c, r, rm, seen, hc, h1, h2, h3, h4⟩ := h
    cases h3 with
    | obj c' hc' hv hh => simp [AB.ren, hσ mid (by rw [hc']; rfl)]
  | loopR s n ps assign body st pend =>
    obtain ⟨c, l, r, hc, h1, h2, h3, h4, h5, h6, h7, h8, h9, h10⟩ := h
    simp only [AB.ren, AB.loopR.injEq, and_true]
    conv => rhs; rw [← List.map_id s]
    apply List.map_congr_left
    rintro ⟨i, x⟩ hx
    simp only [id_eq]
    rw [(h10 _ hx).ren_id hσ]
  | marks => rfl

theorem HRel.ren_id {κ : Kap} {I : Nat → Prop} {H : AH} {w : World} (h : HRel κ I H w) {σ : Nat → Option Nat} (hσ : ∀ id, id < H.length → σ id = some id) : H.map (AB.ren σ) = H := by
  conv => rhs; rw [← List.map_id H]
  apply List.map_congr_left
  intro B hB
  obtain ⟨j, hj⟩ := List.getElem?_of_mem hB
  exact (h.ok j B hj).ren_id fun id hid => hσ id ((h.dom id).2 hid)

section
variable {P : Program} {G : Glob} {ops : Array Oper} {rest : List Oper} {o : Oper} {fr : Fr} {H : AH} {Q : AQ}

/-- An operation that makes a new row which nobody writes to. -/
theorem OpOk.frozen {n e sz : Nat} {ys : List (List AV)} (hn : n = ys.length) (h : OpOk P G o fr H (.slice H.length n) (H ++ [.row e sz ys])) : OpOk P G o fr H (frzV ys) H := by
  subst hn
  intro κ I a w hg hr hf
  obtain ⟨u, κ', I', w', h1, h2, h3, h4⟩ := h κ I a w hg hr hf
  have hB : (H ++ [AB.row e sz ys])[H.length]? = some (.row e sz ys) := by simp
  obtain ⟨c, us, hc, hst, hrest⟩ := h3.ok _ _ hB
  have hok := h3.ok _ _ hB
  have hI : ∀ b, (fun b => I' b ∨ hblk c.hdr = some b) b ↔ I' b ∨ hblk c.hdr = some b := fun _ => Iff.rfl
  obtain ⟨hr', hst'⟩ := h3.dead (I' := fun b => I' b ∨ hblk c.hdr = some b) hB rfl hc hI
  have hx := VR.frozen hok hc hI
  have hu : u = c.hdr := by
    cases h2 with
    | slice c' hc' hst'' hl hh =>
      rw [hc] at hc'
      cases hc'
      exact hh hst
  have hH : (H ++ [AB.row e sz ys]).set H.length .dead = H ++ [.dead] := by simp
  rw [hH] at hr' hst'
  have hk := hr'.keep H.length [] (by simp) (by simp) (by simp)
  have hs2 := (h4.trans hst').keep hr H.length [] (by simp) (Nat.le_refl _) (by simp)
  have hkeep : (H ++ [AB.dead]).keep H.length [] = H := by
    simp only [AH.keep, List.take_left', List.map_nil, List.append_nil]
    exact hr.ren_id fun id hid => by simp [keepS, hid]
  rw [hkeep] at hk hs2
  subst hu
  exact ⟨c.hdr, _, _, w', h1, hx.ren (σ := fun _ => none) (by intro _ _ h; cases h), hk, hs2⟩
end
end Go.Proofs.Ax
/- AX, part V: operations in any order, then the others. -/
set_option linter.unusedVariables false
set_option linter.unusedSimpArgs false
namespace Go.Proofs.Ax
open Go.RowKit

def dstIs (ops : List Oper) (k t : Nat) : Bool :=
  match ops[k]? with
  | some o => o.dst == some t
  | none => false
def predsAt (ops : List Oper) (c : Nat) : List Nat :=
  match ops[c]? with
  | some o => preds o
  | none => []
def cover (ops : List Oper) (p : List Nat) : Nat → List Nat → Bool
  | 0, _ => true
  | i + 1, cov => (p.contains i || cov.any fun c => (predsAt ops c).contains i) && cover ops p i (i :: cov)
def drawOne (ops : Array Oper) (m i : Nat) (o : Oper) : Bool :=
  (match o.dst with | none => true | some d => (List.range i).all fun k => !dstIs ops.toList k d) &&
  ((preds o).all fun k => Nat.blt k i) &&
  (o.looksAt ops).all fun t => ((List.range m).all fun k => !dstIs ops.toList k t) || (List.range i).any fun k => dstIs ops.toList k t && (preds o).contains k
def drawOk (ops : Array Oper) (m : Nat) : Bool :=
  Nat.ble m ops.size &&
  ((List.range m).all fun i => match ops.toList[i]? with | none => false | some o => drawOne ops m i o) &&
  (List.range ops.size).all fun j => Nat.blt j m || ((predsAt ops.toList j).any fun k => Nat.ble m k && Nat.blt k ops.size) || cover ops.toList (predsAt ops.toList j) m []

def putL : Fr → List Oper → List AV → Fr
  | fr, o :: l, v :: vs => putL (fr.put o.dst v) l vs
  | fr, _, _ => fr

theorem put_get {fr : Fr} {d t : Nat} {v : AV} : (fr.put (some d) v).get t = if t = d then v else fr.get t := by
  by_cases e : t = d
  · subst e; simp [Fr.put, Fr.get]
  · have e' : (t == d) = false := by simpa using e
    simp [Fr.put, Fr.get, List.lookup, e', e]
theorem put_n (fr : Fr) (d : Option Nat) (v : AV) : (fr.put d v).n = fr.n := by cases d <;> rfl
theorem put_d (fr : Fr) (d : Option Nat) (v : AV) : (fr.put d v).d = fr.d := by cases d <;> rfl
theorem putL_n : ∀ (l : List Oper) (vs : List AV) (fr : Fr), (putL fr l vs).n = fr.n
  | [], vs, fr => rfl
  | o :: l, [], fr => rfl
  | o :: l, v :: vs, fr => by rw [putL, putL_n, put_n]
theorem putL_d : ∀ (l : List Oper) (vs : List AV) (fr : Fr), (putL fr l vs).d = fr.d
  | [], vs, fr => rfl
  | o :: l, [], fr => rfl
  | o :: l, v :: vs, fr => by rw [putL, putL_d, put_d]
theorem putL_other {t : Nat} : ∀ (l : List Oper) (vs : List AV) (fr : Fr), (∀ k, dstIs l k t = false) → (putL fr l vs).get t = fr.get t
  | [], vs, fr, h => rfl
  | o :: l, [], fr, h => rfl
  | o :: l, v :: vs, fr, h => by
    rw [putL, putL_other l vs _ fun k => by simpa [dstIs] using h (k + 1)]
    have h0 := h 0
    cases hd : o.dst with
    | none => rfl
    | some d =>
      rw [put_get, if_neg]
      intro e
      subst e
      simp [dstIs, hd] at h0
theorem putL_this {t : Nat} : ∀ (l : List Oper) (vs : List AV) (fr : Fr) (k : Nat), l.length = vs.length → dstIs l k t = true → (∀ k', k < k' → dstIs l k' t = false) → (putL fr l vs).get t = vs.getD k .any
  | [], vs, fr, k, hl, h, h' => by simp [dstIs] at h
  | o :: l, [], fr, k, hl, h, h' => by simp at hl
  | o :: l, v :: vs, fr, 0, hl, h, h' => by
    rw [putL, putL_other l vs _ fun k => by simpa [dstIs] using h' (k + 1) (by omega)]
    have hd : o.dst = some t := by simpa [dstIs] using h
    rw [hd, put_get, if_pos rfl]; rfl
  | o :: l, v :: vs, fr, k + 1, hl, h, h' => by
    rw [putL, putL_this l vs _ k (by simpa using hl) (by simpa [dstIs] using h) fun k' hk => by simpa [dstIs] using h' (k' + 1) (by omega)]
    simp

def cnt (listed : Array Bool) : Nat → Nat
  | 0 => 0
  | m + 1 => cnt listed m + if listed.getD m true = true then 0 else 1
theorem cnt_set_ge {listed : Array Bool} {i : Nat} : ∀ m, m ≤ i → cnt (listed.setIfInBounds i true) m = cnt listed m
  | 0, h => rfl
  | m + 1, h => by rw [cnt, cnt, cnt_set_ge m (by omega), getD_set_ne true (show i ≠ m by omega)]
theorem cnt_set {listed : Array Bool} {i : Nat} (hi : listed.getD i true = false) (hs : i < listed.size) : ∀ m, i < m → cnt (listed.setIfInBounds i true) m + 1 = cnt listed m
  | 0, h => by omega
  | m + 1, h => by
    rw [cnt, cnt]
    by_cases e : i = m
    · subst e
      rw [cnt_set_ge i (Nat.le_refl _), hi]
      simp [hs]
    · rw [getD_set_ne true e]
      have := cnt_set hi hs m (by omega)
      omega
theorem cnt_zero {listed : Array Bool} : ∀ m, cnt listed m = 0 → ∀ i, i < m → listed.getD i true = true
  | 0, h, i, hi => by omega
  | m + 1, h, i, hi => by
    rw [cnt] at h
    by_cases e : i = m
    · subst e
      cases hh : listed.getD i true with
      | true => rfl
      | false => rw [hh] at h; simp at h
    · exact cnt_zero m (by omega) i (by omega)
theorem cnt_pos {listed : Array Bool} : ∀ m, cnt listed m ≠ 0 → ∃ i, i < m ∧ listed.getD i true = false ∧ ∀ k, k < i → listed.getD k true = true
  | 0, h => by simp [cnt] at h
  | m + 1, h => by
    by_cases e : cnt listed m = 0
    · refine ⟨m, by omega, ?_, fun k hk => cnt_zero m e k hk⟩
      rw [cnt, e] at h
      cases hh : listed.getD m true with
      | false => rfl
      | true => rw [hh] at h; simp at h
    · obtain ⟨i, h1, h2, h3⟩ := cnt_pos m e
      exact ⟨i, by omega, h2, h3⟩

theorem cover_all {ops : List Oper} {p : List Nat} {L : Nat → Prop} (hp : ∀ k ∈ p, L k) {m : Nat} (hdown : ∀ c, c < m → L c → ∀ k ∈ predsAt ops c, L k) : ∀ (i : Nat) (cov : List Nat), i ≤ m → (∀ c ∈ cov, c < m ∧ L c) → cover ops p i cov = true → ∀ k, k < i → L k := by
  intro i
  induction i with
  | zero => intro cov _ _ _ k hk; omega
  | succ i ih =>
    intro cov him hcov h k hk
    rw [cover, Bool.and_eq_true, Bool.or_eq_true] at h
    have hi : L i := by
      rcases h.1 with h1 | h1
      · exact hp i (by simpa using h1)
      · obtain ⟨c, hc, hc'⟩ := List.any_eq_true.1 h1
        exact hdown c (hcov c hc).1 (hcov c hc).2 i (by simpa using hc')
    by_cases e : k = i
    · subst e; exact hi
    · exact ih (i :: cov) (by omega) (fun c hc => by
        rcases List.mem_cons.1 hc with rfl | hc
        · exact ⟨by omega, hi⟩
        · exact hcov c hc) h.2 k (by omega)

section
variable {P : Program} {G : Glob} {ops : Array Oper} {rest : List Oper} {o : Oper} {fr : Fr} {H : AH} {Q : AQ}

structure DInv (ops : Array Oper) (m : Nat) (vs : List AV) (fr : Fr) (H : AH) (listed : Array Bool) (κ : Kap) (I : Nat → Prop) (a : Act) (w : World) : Prop where
  size : listed.size = ops.size
  later : ∀ j, m ≤ j → j < ops.size → listed.getD j true = false
  down : ∀ c, c < m → listed.getD c false = true → ∀ k ∈ predsAt ops.toList c, listed.getD k false = true
  base : FRel I w κ { s := [], n := fr.n, d := fr.d } a
  heap : HRel κ I H w
  other : ∀ t, (∀ k, k < m → dstIs ops.toList k t = false) → VR I w κ (fr.get t) (a.tmps.getD t undef)
  done : ∀ k d, k < m → listed.getD k false = true → dstIs ops.toList k d = true → VR I w κ (vs.getD k .any) (a.tmps.getD d undef)

theorem getD_true_false {l : Array Bool} {i : Nat} (h : i < l.size) (d d' : Bool) : l.getD i d = l.getD i d' := by
  rw [Array.getD_eq_getD_getElem?, Array.getD_eq_getD_getElem?, Array.getElem?_eq_getElem h]; rfl

theorem take_get {l : List Oper} {m k t : Nat} : dstIs (l.take m) k t = (decide (k < m) && dstIs l k t) := by
  unfold dstIs
  rw [List.getElem?_take]
  by_cases h : k < m
  · simp [h]
  · simp [h]

theorem wpAny_draw {m : Nat} {vs : List AV} (hck : drawOk ops m = true) (hl : vs.length = m) (hd : ∀ i o d, i < m → ops[i]? = some o → o.dst = some d → d < fr.n)
    (hq : ∀ i o, i < m → ops[i]? = some o → Quiet P G ops o (putL fr (ops.toList.take i) (vs.take i)) H (vs.getD i .any))
    {κ0 : Kap} {I0 : Nat → Prop} {w0 : World} (hr0 : HRel κ0 I0 H w0) (hg0 : GRel I0 w0 G)
    (h : AAny P G ops (ops.size - m) (lis m ops.size) (putL fr (ops.toList.take m) vs) H Q) :
    ∀ (q : Nat) (listed : Array Bool) (κ : Kap) (I : Nat → Prop) (a : Act) (w : World), cnt listed m = q → DInv ops m vs fr H listed κ I a w → Stp κ0 I0 H w0 κ I H w → wpAny P .any ops (APost κ0 I0 H w0 Q) (q + (ops.size - m)) listed a w := by
  simp only [drawOk, Bool.and_eq_true, Nat.ble_eq, List.all_eq_true, List.mem_range, Bool.or_eq_true, Nat.blt_eq] at hck
  obtain ⟨⟨hm, hone⟩, hcov⟩ := hck
  have one : ∀ i o, i < m → ops[i]? = some o → drawOne ops m i o = true := fun i o hi ho => by
    have := hone i hi
    rw [show ops.toList[i]? = some o by simpa using ho] at this
    exact this
  have len : ∀ i, i ≤ m → (ops.toList.take i).length = (vs.take i).length := fun i hi => by simp [hl]; omega
  have uniq : ∀ k k' d, k < m → k' < m → dstIs ops.toList k d = true → dstIs ops.toList k' d = true → k = k' := by
    have lt : ∀ k k' d, k < k' → k' < m → dstIs ops.toList k d = true → dstIs ops.toList k' d = true → False := by
      intro k k' d hkk hk' h1 h2
      have ho : ops[k']? = some ops[k'] := by simp [show k' < ops.size by omega]
      have h3 := one k' _ hk' ho
      have hdst : (ops[k']).dst = some d := by
        unfold dstIs at h2
        rw [show ops.toList[k']? = some ops[k'] by simp] at h2
        simpa using h2
      simp only [drawOne, hdst, Bool.and_eq_true, List.all_eq_true, List.mem_range] at h3
      have := h3.1.1 k hkk
      rw [h1] at this
      cases this
    intro k k' d hk hk' h1 h2
    rcases Nat.lt_trichotomy k k' with h3 | h3 | h3
    · exact (lt k k' d h3 hk' h1 h2).elim
    · exact h3
    · exact (lt k' k d h3 hk h2 h1).elim
  intro q
  induction q with
  | zero =>
    intro listed κ I a w hc hi hs
    have hall := cnt_zero m hc
    have hlis : listed = lis m ops.size := by
      apply Array.ext
      · rw [hi.size, lis_size]
      · intro j h1 h2
        have e1 : listed[j] = listed.getD j true := by rw [Array.getD_eq_getD_getElem?, Array.getElem?_eq_getElem h1]; rfl
        have e2 : (lis m ops.size)[j] = (lis m ops.size).getD j true := by rw [Array.getD_eq_getD_getElem?, Array.getElem?_eq_getElem h2]; rfl
        have hj : j < ops.size := by rw [← hi.size]; exact h1
        rw [e1, e2, lis_getD, if_pos hj]
        by_cases hjm : j < m
        · rw [hall j hjm]; symm; rw [Nat.blt_eq]; exact hjm
        · rw [hi.later j (by omega) hj]
          cases hb : Nat.blt j m with
          | false => rfl
          | true => rw [Nat.blt_eq] at hb; omega
    subst hlis
    rw [Nat.zero_add]
    have hf : FRel I w κ (putL fr (ops.toList.take m) vs) a := by
      refine ⟨by rw [putL_n]; exact hi.base.size, fun t x hx => ?_, by rw [putL_d]; exact hi.base.dlen, fun i x hx => hi.base.defs i x (by rw [putL_d] at hx; exact hx)⟩
      have hx' : (putL fr (ops.toList.take m) vs).get t = x := by rw [Fr.get, hx]; rfl
      rw [← hx']
      by_cases ht : ∀ k, k < m → dstIs ops.toList k t = false
      · rw [putL_other _ _ _ fun k => by
          rw [take_get]
          by_cases hk : k < m
          · simp [ht k hk]
          · simp [hk]]
        exact hi.other t ht
      · obtain ⟨k, hk⟩ := Classical.not_forall.1 ht
        obtain ⟨hk1, hk2⟩ := Classical.not_imp.1 hk
        have hk2' : dstIs ops.toList k t = true := by simpa using hk2
        have hlen := len m (Nat.le_refl _)
        rw [List.take_of_length_le (show vs.length ≤ m by omega)] at hlen
        rw [putL_this _ _ _ k hlen (by rw [take_get]; simp [hk1, hk2']) fun k' hk' => by
          rw [take_get]
          by_cases hkm : k' < m
          · cases hb : dstIs ops.toList k' t with
            | false => simp
            | true => have := uniq k k' t hk1 hkm hk2' hb; omega
          · simp [hkm]]
        exact hi.done k t hk1 (by rw [lis_getD, if_pos (by omega), Nat.blt_eq]; exact hk1) hk2'
    exact wpAny_monoQ (fun _ _ _ => APost.back hs) _ _ _ _ (h κ I a w (hs.grel hr0 hg0) hi.heap hf)
  | succ q ih =>
    intro listed κ I a w hc hi hs
    have hcn : cnt listed m ≠ 0 := by omega
    rw [show q + 1 + (ops.size - m) = (q + (ops.size - m)) + 1 by omega]
    have sizes : ∀ j, j < ops.size → listed.getD j false = listed.getD j true := fun j hj => getD_true_false (by rw [hi.size]; exact hj) _ _
    refine ⟨fun he => ?_, fun i hri => ?_⟩
    · exfalso
      obtain ⟨i, h1, h2, h3⟩ := cnt_pos m hcn
      have ho : ops[i]? = some ops[i] := by simp [show i < ops.size by omega]
      have : i ∈ Region.ready .any ops listed := ready_iff.2 ⟨h2, _, ho, fun k hk => by
        have h4 := one i _ h1 ho
        simp only [drawOne, Bool.and_eq_true, List.all_eq_true] at h4
        have h5 := h4.1.2 k hk
        rw [Nat.blt_eq] at h5
        rw [sizes k (by omega)]
        exact h3 k h5⟩
      rw [he] at this
      cases this
    · obtain ⟨hun, o, ho, hpre⟩ := ready_iff.1 hri
      have hi' : i < ops.size := (Array.getElem?_eq_some_iff.1 ho).1
      have hol : ops.toList[i]? = some o := by simpa using ho
      have him : i < m := by
        rcases Nat.lt_or_ge i m with h1 | h1
        · exact h1
        · exfalso
          have h2 := (hcov i hi').resolve_left (by
            rintro (h2 | h2)
            · omega
            · obtain ⟨k, hk, hk'⟩ := List.any_eq_true.1 h2
              rw [Bool.and_eq_true, Nat.ble_eq, Nat.blt_eq] at hk'
              have h3 := hpre k (by simpa only [predsAt, hol] using hk)
              rw [sizes k hk'.2, hi.later k hk'.1 hk'.2] at h3
              cases h3)
          have hall := cover_all (L := fun k => listed.getD k false = true) (p := predsAt ops.toList i) (by
            intro k hk
            simp only [predsAt, hol] at hk
            exact hpre k hk) (m := m) (fun c hc hl k hk => hi.down c hc hl k hk) m [] (Nat.le_refl _) (by simp) h2
          obtain ⟨j, h3, h4, _⟩ := cnt_pos m hcn
          have h5 := hall j h3
          rw [sizes j (by omega), h4] at h5
          cases h5
      have h1 := one i o him ho
      simp only [drawOne, Bool.and_eq_true, List.all_eq_true] at h1
      obtain ⟨⟨h1a, h1b⟩, h1c⟩ := h1
      have hf : FRel I w κ ((putL fr (ops.toList.take i) (vs.take i)).only (o.looksAt ops)) a := by
        refine ⟨by simp only [Fr.only]; rw [putL_n]; exact hi.base.size, fun t x hx => ?_, by simp only [Fr.only]; rw [putL_d]; exact hi.base.dlen, fun i x hx => hi.base.defs i x (by simp only [Fr.only] at hx; rw [putL_d] at hx; exact hx)⟩
        obtain ⟨ht, rfl⟩ := only_lookup hx
        have h2 := h1c t ht
        rw [Bool.or_eq_true] at h2
        rcases h2 with h2 | h2
        · rw [List.all_eq_true] at h2
          have h3 : ∀ k, k < m → dstIs ops.toList k t = false := fun k hk => by simpa using h2 k (List.mem_range.2 hk)
          rw [putL_other _ _ _ fun k => by
            rw [take_get]
            by_cases hk : k < i
            · simp [h3 k (by omega)]
            · simp [hk]]
          exact hi.other t h3
        · obtain ⟨k, hk, hk'⟩ := List.any_eq_true.1 h2
          rw [List.mem_range] at hk
          rw [Bool.and_eq_true] at hk'
          rw [putL_this _ _ _ k (len i (by omega)) (by rw [take_get]; simp [hk, hk'.1]) fun k' hk'' => by
            rw [take_get]
            by_cases hkm : k' < i
            · cases hb : dstIs ops.toList k' t with
              | false => simp
              | true => have := uniq k k' t (by omega) (by omega) hk'.1 hb; omega
            · simp [hkm]]
          have e : (vs.take i).getD k .any = vs.getD k .any := by simp [List.getD, List.getElem?_take, hk]
          rw [e]
          exact hi.done k t (by omega) (hpre k (by simpa using hk'.2)) hk'.1
      have hQ := hq i o him ho κ I a w (APost κ0 I0 H w0 Q) (wpAny P .any ops (APost κ0 I0 H w0 Q) (q + (ops.size - m)) (listed.setIfInBounds i true)) (hs.grel hr0 hg0) hi.heap hf
        (by
          intro u κ' I' w' hr' hv hs'
          have hcs := cnt_set hun (by rw [hi.size]; exact hi') m him
          refine ih _ κ' I' _ w' (by omega) ?_ (hs.trans hs')
          refine ⟨by simpa using hi.size, fun j hj hj' => by rw [getD_set_ne true (show i ≠ j by omega)]; exact hi.later j hj hj', ?_, ?_, hr', ?_, ?_⟩
          · intro c hc hlc k hk
            by_cases e : i = c
            · subst e
              simp only [predsAt, hol] at hk
              exact getD_set_true (hpre k hk)
            · rw [getD_set_ne false e] at hlc
              exact getD_set_true (hi.down c hc hlc k hk)
          · have hb := hs'.frel hi.heap hi.base
            have hp := hb.put (dst := o.dst) (x := .any) (v := u) (fun d hdd => hd i o d him ho hdd) .any
            exact ⟨hp.size.trans (put_n _ _ _), fun t x hx => (by cases hx), by rw [hp.dlen, put_d], fun i x hx => hp.defs i x (by rw [put_d]; exact hx)⟩
          · intro t ht
            have hne : ∀ d, o.dst = some d → d ≠ t := fun d hdd e => by
              subst e
              have := ht i him
              simp [dstIs, hol, hdd] at this
            have e : (a.put o.dst u).tmps.getD t undef = a.tmps.getD t undef := by
              cases hdd : o.dst with
              | none => rfl
              | some d => simp only [Act.put]; rw [Array.getD_eq_getD_getElem?, Array.getD_eq_getD_getElem?, Array.getElem?_setIfInBounds_ne (hne d hdd)]
            rw [e]
            exact hs'.vr hi.heap (hi.other t ht)
          · intro k d hk hlk hdk
            by_cases e : i = k
            · subst e
              have hdd : o.dst = some d := by simpa [dstIs, hol] using hdk
              have hlt : d < a.tmps.size := by rw [hi.base.size]; exact hd i o d him ho hdd
              rw [hdd]
              simp only [Act.put]
              rw [Array.getD_eq_getD_getElem?, Array.getElem?_setIfInBounds_self_of_lt hlt]
              exact hv
            · rw [getD_set_ne false e] at hlk
              have hne : ∀ d', o.dst = some d' → d' ≠ d := fun d' hdd e2 => by
                subst e2
                exact e (uniq i k d' him hk (by simp [dstIs, hol, hdd]) hdk)
              have e3 : (a.put o.dst u).tmps.getD d undef = a.tmps.getD d undef := by
                cases hdd : o.dst with
                | none => rfl
                | some d' => simp only [Act.put]; rw [Array.getD_eq_getD_getElem?, Array.getD_eq_getD_getElem?, Array.getElem?_setIfInBounds_ne (hne d' hdd)]
              rw [e3]
              exact hs'.vr hi.heap (hi.done k d hk hlk hdk))
      unfold wpOp
      simp only [ho]
      split
      · rename_i hw; rw [if_pos hw] at hQ; exact hQ
      · rename_i hw; rw [if_neg hw] at hQ; exact hQ

/-- The operations of a list, each of which leaves the heap as it was. -/
def ADraw (P : Program) (G : Glob) (ops : Array Oper) (H : AH) (K : Fr → Prop) : List Oper → Fr → Prop
  | [], fr => K fr
  | o :: rest, fr => dstOk o fr.n ∧ ∃ v, Quiet P G ops o fr H v ∧ ADraw P G ops H K rest (fr.put o.dst v)

theorem ADraw.vals {K : Fr → Prop} : ∀ (l : List Oper) (fr : Fr), ADraw P G ops H K l fr → ∃ vs : List AV, vs.length = l.length ∧ K (putL fr l vs) ∧
    ∀ i o, l[i]? = some o → dstOk o fr.n ∧ Quiet P G ops o (putL fr (l.take i) (vs.take i)) H (vs.getD i .any) := by
  intro l
  induction l with
  | nil => intro fr h; exact ⟨[], rfl, h, fun i o hi => by simp at hi⟩
  | cons o l ih =>
    intro fr h
    obtain ⟨hd, v, hq, h2⟩ := h
    obtain ⟨vs, h3, h4, h5⟩ := ih _ h2
    refine ⟨v :: vs, by simp [h3], h4, fun i o' hi => ?_⟩
    cases i with
    | zero =>
      simp only [List.getElem?_cons_zero, Option.some.injEq] at hi
      subst hi
      exact ⟨hd, hq⟩
    | succ i =>
      obtain ⟨h6, h7⟩ := h5 i o' (by simpa using hi)
      rw [put_n] at h6
      exact ⟨h6, by simpa [putL] using h7⟩

theorem draw_any (m : Nat) (hck : drawOk ops m = true)
    (h : ADraw P G ops H (fun fr' => AAny P G ops (ops.size - m) (lis m ops.size) fr' H Q) (ops.toList.take m) fr) :
    ∀ κ I a w, GRel I w G → HRel κ I H w → FRel I w κ fr a → wpAny P .any ops (APost κ I H w Q) ops.size (Array.replicate ops.size false) a { w with drawn := w.drawn + 1 } := by
  obtain ⟨vs, h1, h2, h3⟩ := ADraw.vals _ _ h
  have hm : m ≤ ops.size := by
    simp only [drawOk, Bool.and_eq_true, Nat.ble_eq] at hck
    exact hck.1.1
  have hl : vs.length = m := by rw [h1]; simp; omega
  intro κ I a w hg hr hf
  obtain ⟨hr', hs⟩ := hr.grow (w' := { w with drawn := w.drawn + 1 }) rfl rfl rfl (Nat.le_refl _) fun _ _ => rfl
  rw [lis_zero]
  have get : ∀ i o, i < m → ops[i]? = some o → (ops.toList.take m)[i]? = some o := fun i o hi ho => by
    rw [List.getElem?_take, if_pos hi]; simpa using ho
  have hz : cnt (lis 0 ops.size) m = m := by
    have : ∀ k, k ≤ ops.size → cnt (lis 0 ops.size) k = k := by
      intro k
      induction k with
      | zero => intro _; rfl
      | succ k ih =>
        intro hk
        have hz : Nat.blt k 0 = false := by
          cases hb : Nat.blt k 0 with
          | false => rfl
          | true => rw [Nat.blt_eq] at hb; omega
        have h2 := ih (Nat.le_of_succ_le hk)
        rw [cnt, lis_getD, if_pos (Nat.lt_of_succ_le hk), hz, h2]; rfl
    exact this m hm
  have zf : ∀ j d, (lis 0 ops.size).getD j d = true → j < ops.size → False := fun j d h1 h2 => by
    rw [lis_getD, if_pos h2, Nat.blt_eq] at h1; omega
  have key := wpAny_draw (P := P) (G := G) (Q := Q) (vs := vs) (fr := fr) hck hl (fun i o d hi ho hd => (h3 i o (get i o hi ho)).1 d hd) (fun i o hi ho => by
    have := (h3 i o (get i o hi ho)).2
    rw [List.take_take, Nat.min_eq_left (by omega)] at this
    exact this) hr hg h2 m (lis 0 ops.size) κ I a { w with drawn := w.drawn + 1 } hz
    ⟨lis_size _ _, fun j h4 h5 => by
        cases hb : (lis 0 ops.size).getD j true with
        | false => rfl
        | true => exact (zf j true hb h5).elim,
      fun c hc hl => (zf c false hl (by omega)).elim,
      ⟨hf.size, fun t x hx => by simp at hx, hf.dlen, hf.defs⟩ |> fun hb => hs.frel hr hb, hr', fun t _ => hs.vr hr (hf.get t), fun k d hk hl => (zf k false hl (by omega)).elim⟩ hs
  rw [show m + (ops.size - m) = ops.size by omega] at key
  exact key

theorem AWp.draw {id : Nat} (hmix : P.follows .mixedOrders = true) (m : Nat) (hck : drawOk ops m = true)
    (h : ADraw P G ops H (fun fr' => AAny P G ops (ops.size - m) (lis m ops.size) fr' H Q) (ops.toList.take m) fr) : AWp P G (.region id ops true) fr H Q :=
  fun κ I a w hg hr hf => wp_region_any hmix (draw_any m hck h κ I a w hg hr hf)

/-! ### Frames that tell the same -/
def FrEq (fr fr2 : Fr) : Prop := fr.n = fr2.n ∧ fr.d = fr2.d ∧ ∀ t, fr.get t = fr2.get t
theorem FrEq.only {fr2 : Fr} (h : FrEq fr fr2) (l : List Nat) : fr.only l = fr2.only l := by
  obtain ⟨h1, h2, h3⟩ := h
  simp [Fr.only, h1, h2, h3]
theorem FrEq.put {fr2 : Fr} (h : FrEq fr fr2) (d : Option Nat) (v : AV) : FrEq (fr.put d v) (fr2.put d v) := by
  obtain ⟨h1, h2, h3⟩ := h
  refine ⟨by rw [put_n, put_n, h1], by rw [put_d, put_d, h2], fun t => ?_⟩
  cases d with
  | none => exact h3 t
  | some d => rw [put_get, put_get, h3]
theorem FrEq.frel {fr2 : Fr} (h : FrEq fr fr2) {κ : Kap} {I : Nat → Prop} {a : Act} {w : World} (hf : FRel I w κ fr2 a) : FRel I w κ fr a :=
  hf.weak h.1 h.2.1 fun t x hx => by
    have h3 := h.2.2 t
    rw [Fr.get, Fr.get, hx] at h3
    cases hk : fr2.s.lookup t with
    | none => rw [hk] at h3; exact .inl h3
    | some y => rw [hk] at h3; simp at h3; exact .inr (by rw [h3])
theorem FrEq.aany {fr2 : Fr} (h : FrEq fr fr2) {n : Nat} {l : Array Bool} (k : AAny P G ops n l fr H Q) : AAny P G ops n l fr2 H Q :=
  fun κ I a w hg hr hf => k κ I a w hg hr (h.frel hf)
theorem ADraw.congr {K : Fr → Prop} (hK : ∀ fr fr2, FrEq fr fr2 → K fr → K fr2) : ∀ (l : List Oper) (fr fr2 : Fr), FrEq fr fr2 → ADraw P G ops H K l fr → ADraw P G ops H K l fr2 := by
  intro l
  induction l with
  | nil => intro fr fr2 h k; exact hK _ _ h k
  | cons o l ih =>
    intro fr fr2 h k
    obtain ⟨h1, v, h2, h3⟩ := k
    refine ⟨by rw [dstOk, ← h.1]; exact h1, v, ?_, ih _ _ (h.put _ _) h3⟩
    intro κ I a w Q K hg hr hf
    rw [← h.only] at hf
    exact h2 κ I a w Q K hg hr hf
theorem FrEq.known {t : Nat} {c : Bool} (h : fr.get t = .bool c) : FrEq (fr.put (some t) (.bool c)) fr :=
  ⟨put_n _ _ _, put_d _ _ _, fun i => by
    rw [put_get]
    split
    · rename_i e; rw [e, h]
    · rfl⟩
end
end Go.Proofs.Ax
/- AX, part W: reckoning regions in any order. -/
set_option linter.unusedVariables false
set_option linter.unusedSimpArgs false
namespace Go.Proofs.Ax
open Go.RowKit

section
variable {P : Program} {T : Tab} {G : Glob} {ops : Array Oper} {rest : List Oper} {o : Oper} {fr fr2 : Fr} {H : AH} {Q : AQ}

theorem aeval_only {x : Operand} (h : x ∈ o.op.operands) : aeval G (fr.only (o.looksAt ops)) x = aeval G fr x := by
  cases x with
  | tmp t =>
    refine only_get ?_
    unfold Oper.looksAt
    refine List.mem_append_left _ (List.mem_filterMap.2 ⟨.tmp t, by simpa using h, rfl⟩)
  | _ => rfl

theorem parts_congr {ps : Array (Nat × Operand)} (h : ∀ x ∈ (ps.toList.map (·.2)).toArray, aeval G fr x = aeval G fr2 x) : (ps.toList.map fun p => (p.1, aeval G fr p.2)) = ps.toList.map fun p => (p.1, aeval G fr2 p.2) :=
  List.map_congr_left fun p hp => by rw [h p.2 (by simp only [List.mem_toArray, List.mem_map]; exact ⟨p, hp, rfl⟩)]
theorem optI_congr {x : Option Operand} {d : Int} (h : ∀ y ∈ x.toArray, aeval G fr y = aeval G fr2 y) : optI G fr x d = optI G fr2 x d := by
  cases x with
  | none => rfl
  | some y => simp only [optI, h y (by simp)]

theorem astep_congr {op : Op} (h : ∀ x ∈ op.operands, aeval G fr x = aeval G fr2 x) : astep T G fr H op = astep T G fr2 H op := by
  cases op with
  | build t ps => simp only [astep, sBuild, parts_congr (ps := ps) h]
  | buildSlice t n ps => simp only [astep, sBuildSlice, parts_congr (ps := ps) h]
  | slice t x lo hi mx =>
    cases mx with
    | some m => rfl
    | none =>
      have hx := h x (by simp [Op.operands])
      have hl := optI_congr (x := lo) (d := 0) fun y hy => h y (by simp at hy; subst hy; simp [Op.operands])
      have hh : ∀ d, optI G fr hi d = optI G fr2 hi d := fun d => optI_congr fun y hy => h y (by simp at hy; subst hy; simp [Op.operands])
      simp only [astep, sSlice, hx, hl, hh]
  | makeFunc fn first cap =>
    have h1 : first.toList.map (aeval G fr) = first.toList.map (aeval G fr2) := List.map_congr_left fun x hx => h x (by simp [Op.operands]; left; simpa using hx)
    have h2 : cap.toList.map (aeval G fr) = cap.toList.map (aeval G fr2) := List.map_congr_left fun x hx => h x (by simp [Op.operands]; right; simpa using hx)
    simp only [astep, h1, h2]
  | call c =>
    have ha : ∀ x ∈ c.args.toList, aeval G fr x = aeval G fr2 x := fun x hx => h x (by simp [Op.operands, Call.operands]; right; simpa using hx)
    simp only [astep]
    split
    · rename_i b hb
      generalize c.args.toList = args at ha
      generalize c.argTypes.toList = ts
      unfold sBuiltin
      split
      · simp only [sLen, ha _ List.mem_cons_self]
      · simp only [sAppend, ha _ List.mem_cons_self, ha _ (List.mem_cons_of_mem _ List.mem_cons_self)]
      · rfl
    · rfl
  | move x | assign x | box t x | load t x | nilCheck x | convert t u x | makeInterface t x | fieldAddr s x n | field s x n | extract x n | panic x =>
    have hx := h x (by simp [Op.operands])
    simp only [astep, sLoad, sCheck, sConv, sFieldAddr, sField, hx]
  | unOp op t x =>
    have hx := h x (by simp [Op.operands])
    cases op <;> first | rfl | (simp only [astep, hx])
  | pick c x y =>
    have h1 := h c (by simp [Op.operands])
    have h2 := h x (by simp [Op.operands])
    have h3 := h y (by simp [Op.operands])
    simp only [astep, h1, h2, h3]
  | store t x y | binOp op t x y z | indexAddr t x y | index t x y =>
    have h1 := h x (by simp [Op.operands])
    have h2 := h y (by simp [Op.operands])
    simp only [astep, sStore, sBin, sIndexAddr, sIndex, h1, h2]
  | _ => rfl

theorem wanted_only {b : Bool} (h : wantedA ops fr o b) : wantedA ops (fr.only (o.looksAt ops)) o b := by
  unfold wantedA at *
  split
  · rename_i hg; rw [hg] at h; exact h
  · rename_i j want hg
    rw [hg] at h
    obtain ⟨t, h1, h3, h4⟩ := h
    refine ⟨t, h1, h3, ?_⟩
    rw [only_get]
    · exact h4
    · simp only [Oper.looksAt, hg, h1]
      simp

theorem Quiet.step (hT : T.ok P = true) {p : Prop} {v : AV} (hw : wantedA ops fr o true) (hs : astep T G fr H o.op = some (p, v, H)) (hp : p) : Quiet P G ops o fr H v :=
  .of_op (wanted_only hw) (astep_ok hT (by rw [← hs]; exact astep_congr fun x hx => aeval_only hx) hp)
theorem Quiet.row (hT : T.ok P = true) {p : Prop} {n e sz : Nat} {ys : List (List AV)} (hn : n = ys.length) (hw : wantedA ops fr o true) (hs : astep T G fr H o.op = some (p, .slice H.length n, H ++ [.row e sz ys])) (hp : p) : Quiet P G ops o fr H (frzV ys) :=
  .of_op (wanted_only hw) (OpOk.frozen hn (astep_ok hT (by rw [← hs]; exact astep_congr fun x hx => aeval_only hx) hp))

/-- A call that leaves the heap as it was. -/
theorem Quiet.call {f : Operand} {args : Array Operand} {ts : Array TypeId} {g : FuncId} {first cap : List AV} {fn : Func} {r : AV} (hw : wantedA ops fr o true) (ho : o.op = .call { callee := .value f, args, argTypes := ts }) (hf' : aeval G fr f = .func (.func g) first cap)
    (hg' : P.funcs[g]? = some fn) (hb : fn.body.isNone = false) (hn : (fn.name == "runtime.NumGoroutine") = false) (h : ACalls P G g (first ++ args.toList.map (aeval G fr) ++ cap) H (fun e H2 => e = .ret r ∧ H2 = H)) : Quiet P G ops o fr H r := by
  intro κ I a w Q K hg hr hf hK
  rw [if_pos (wanted_run hf (wanted_only hw))]
  left
  have hmem : ∀ x, x = f ∨ x ∈ args → x ∈ o.op.operands := fun x hx => by
    rw [ho]; simp only [Op.operands, Call.operands]
    rcases hx with rfl | hx
    · simp
    · exact Array.mem_append_right _ hx
  have ev : ∀ x, x = f ∨ x ∈ args → VR I w κ (aeval G fr x) (a.eval x) := fun x hx => by
    rw [← aeval_only (ops := ops) (hmem x hx)]; exact aeval_vr hg hf x
  have hv := ev f (.inl rfl)
  rw [hf'] at hv
  generalize ha : a.eval f = v at hv
  cases hv with
  | @func _ _ _ _ us vs l1 l2 v1 v2 =>
  have hargs : VRs I w κ (first ++ args.toList.map (aeval G fr) ++ cap) (us ++ args.toList.map a.eval ++ vs) := by
    refine VRs.app (VRs.app ⟨l1, v1⟩ ⟨by simp, fun i x hx => ?_⟩) ⟨l2, v2⟩
    rw [List.getElem?_map] at hx
    obtain ⟨y, hy, rfl⟩ := Option.map_eq_some_iff.1 hx
    simp only [List.getD, List.getElem?_map, hy, Option.map_some, Option.getD_some]
    exact ev y (.inr (by simpa using List.mem_of_getElem? hy))
  have hc := h κ I _ w hg hr hargs
  unfold Oper.wp
  have e : (execOp a.eval o).run P w = .ok (.enter g ⟨us ++ args.toList.map a.eval ++ vs⟩) w := by
    have em : args.map a.eval = ⟨args.toList.map a.eval⟩ := by apply Array.ext'; simp
    have ea : (⟨us⟩ : Array Value) ++ (⟨args.toList.map a.eval⟩ : Array Value) ++ (⟨vs⟩ : Array Value) = ⟨us ++ args.toList.map a.eval ++ vs⟩ := by apply Array.ext'; simp
    have hn' : ¬ fn.name = "runtime.NumGoroutine" := by simpa using hn
    have hb' : ¬ fn.body = none := fun hh => by rw [hh] at hb; cases hb
    simp [execOp, ho, resolve, Deferred.ofValue, ha, invoke, callFunc, hg', hn', hb', em]
  rw [e, Oper.upon_enter]
  refine hc.mono fun en w' hp => ?_
  obtain ⟨x, H', κ', I', h1, h2, h3, rfl, rfl⟩ := hp
  cases en <;> simp only [EndRel] at h1
  exact hK _ κ' I' w' h2 h1 h3

/-! ### The first part, reckoned -/
def allocOp : Op → Bool
  | .buildSlice .. => true
  | .call c => match c.callee with | .builtin .append => true | _ => false
  | _ => false
def dstB (o : Oper) (n : Nat) : Prop := match o.dst with | some d => Nat.blt d n = true | none => True

def stepD (P : Program) (T : Tab) (G : Glob) (ops : Array Oper) (H : AH) (K0 : Fr → Prop) (o : Oper) (rest : List Oper) (fr : Fr) (K : Fr → Prop) : Prop :=
  match astep T G fr H o.op with
  | some (p, v, H') => dstB o fr.n ∧ p ∧ (match allocOp o.op with
    | false => H' = H ∧ K (fr.put o.dst v)
    | true => match H'.getLast? with
      | some (.row e sz ys) => H' = H ++ [.row e sz ys] ∧ v = .slice H.length ys.length ∧ K (fr.put o.dst (frzV ys))
      | _ => False)
  | none => ADraw P G ops H K0 (o :: rest) fr
def runD (P : Program) (T : Tab) (G : Glob) (ops : Array Oper) (H : AH) (K0 : Fr → Prop) : List Oper → Fr → Prop
  | [], fr => K0 fr
  | o :: rest, fr =>
    match o.guard with
    | none => stepD P T G ops H K0 o rest fr (runD P T G ops H K0 rest)
    | some (j, want) =>
      match (ops[j]?).bind (·.dst) with
      | some t =>
        match fr.get t with
        | .bool c => Nat.blt t fr.n = true ∧ dstB o fr.n ∧
            gd c want (stepD P T G ops H K0 o rest (fr.put (some t) (.bool want)) (runD P T G ops H K0 rest)) (runD P T G ops H K0 rest ((fr.put (some t) (.bool (!want))).put o.dst (.tuple [])))
        | _ => ADraw P G ops H K0 (o :: rest) fr
      | none => ADraw P G ops H K0 (o :: rest) fr

theorem stepD_ok (hT : T.ok P = true) {K0 : Fr → Prop} {K : Fr → Prop} (hw : wantedA ops fr o true) (hK : ∀ fr', K fr' → ADraw P G ops H K0 rest fr') (h : stepD P T G ops H K0 o rest fr K) : ADraw P G ops H K0 (o :: rest) fr := by
  unfold stepD at h
  split at h
  · rename_i p v H' hs
    obtain ⟨h1, h2, h3⟩ := h
    split at h3
    · obtain ⟨rfl, h3⟩ := h3
      exact ⟨dst_of h1, v, Quiet.step hT hw hs h2, hK _ h3⟩
    · split at h3
      · obtain ⟨rfl, rfl, h3⟩ := h3
        exact ⟨dst_of h1, _, Quiet.row hT rfl hw hs h2, hK _ h3⟩
      · exact h3.elim
  · exact h

theorem runD_ok (hT : T.ok P = true) {K0 : Fr → Prop} (hK : ∀ fr fr2, FrEq fr fr2 → K0 fr → K0 fr2) : ∀ (rest : List Oper) (fr : Fr), runD P T G ops H K0 rest fr → ADraw P G ops H K0 rest fr := by
  intro rest
  induction rest with
  | nil => intro fr h; exact h
  | cons o rest ih =>
    intro fr h
    unfold runD at h
    split at h
    · rename_i hg
      exact stepD_ok hT (wanted_none hg) (fun fr' => ih fr') h
    · rename_i j want hg
      split at h
      · rename_i t ht
        split at h
        · rename_i c hc
          obtain ⟨h1, h2, h3, h4⟩ := h
          cases hcw : (c == want) with
          | true =>
            have e : c = want := by simpa using hcw
            subst e
            exact ADraw.congr hK _ _ _ (FrEq.known hc) (stepD_ok hT (wanted_some hg ht (get_put_same _ _ _) (by rw [put_n]; exact h1) (by simp)) (fun fr' => ih fr') (h3 rfl))
          | false =>
            have e : c = !want := by cases c <;> cases want <;> simp_all
            subst e
            refine ADraw.congr hK _ _ _ (FrEq.known hc) ⟨?_, .tuple [], ?_, ih _ (h4 rfl)⟩
            · rw [put_n]; exact dst_of h2
            · exact Quiet.skip (wanted_only (wanted_some hg ht (get_put_same _ _ _) (by rw [put_n]; exact h1) (by simp)))
        · exact h
      · exact h

theorem ADraw.call_ret {K0 : Fr → Prop} {f : Operand} {args : Array Operand} {ts : Array TypeId} {g : FuncId} {first cap : List AV} {fn : Func} (hw : wantedA ops fr o true) (hd : dstOk o fr.n) (ho : o.op = .call { callee := .value f, args, argTypes := ts }) (hf' : aeval G fr f = .func (.func g) first cap)
    (hg' : P.funcs[g]? = some fn) (hb : fn.body.isNone = false) (hn : (fn.name == "runtime.NumGoroutine") = false) {args' : List AV} (ha : AV.rens (fun _ => none) (first ++ args.toList.map (aeval G fr) ++ cap) = args') {r r' : AV}
    (hc : ACalls P G g args' [] (fun e H => e = .ret r ∧ H = [])) (hr : r.ren (fun _ => none) = r') (h : ADraw P G ops H K0 rest (fr.put o.dst r')) : ADraw P G ops H K0 (o :: rest) fr := by
  refine ⟨hd, r', ?_, h⟩
  subst ha
  refine Quiet.call hw ho hf' hg' hb hn ((ACalls.pure (H := H) hc).mono ?_)
  rintro e H2 ⟨⟨e0, rfl, rfl⟩, rfl⟩
  subst hr
  exact ⟨rfl, rfl⟩

/-- A region in any order: m quiet operations, then the others, each behind all before it. -/
theorem AWp.drawR (hT : T.ok P = true) (hmix : P.follows .mixedOrders = true) {id : Nat} {l : List Oper} (m : Nat) (hck : drawOk l.toArray m = true) (hs : serial l m = true)
    (h : runD P T G l.toArray H (fun fr' => AOps P G l.toArray (l.drop m) fr' H Q) (l.take m) fr) : AWp P G (.region id l.toArray true) fr H Q := by
  refine AWp.draw hmix m hck ?_
  have hm : m ≤ l.toArray.size := by
    simp only [drawOk, Bool.and_eq_true, Nat.ble_eq] at hck
    exact hck.1.1
  have h1 : ADraw P G l.toArray H (fun fr' => AOps P G l.toArray (l.drop m) fr' H Q) (l.take m) fr := runD_ok hT (fun fr fr2 he k => fun κ I a w hg hr hf => k κ I a w hg hr (he.frel hf)) _ _ h
  have mono : ∀ (l2 : List Oper) (fr : Fr), ADraw P G l.toArray H (fun fr' => AOps P G l.toArray (l.drop m) fr' H Q) l2 fr → ADraw P G l.toArray H (fun fr' => AAny P G l.toArray (l.toArray.size - m) (lis m l.toArray.size) fr' H Q) l2 fr := by
    intro l2
    induction l2 with
    | nil => intro fr h; exact AAny.serial hs hm h
    | cons o l2 ih => intro fr h; obtain ⟨a, v, b, c⟩ := h; exact ⟨a, v, b, ih _ c⟩
  exact mono _ _ h1

/-! ### The others, where they may come in several orders -/
def allP : List Nat → (Nat → Prop) → Prop
  | [], K => True
  | i :: l, K => K i ∧ allP l K
theorem allP_mem {K : Nat → Prop} : ∀ {l : List Nat}, allP l K → ∀ i ∈ l, K i
  | [], h, i, hi => by cases hi
  | j :: l, h, i, hi => by
    rcases List.mem_cons.1 hi with rfl | hi
    · exact h.1
    · exact allP_mem h.2 i hi
def stepA (P : Program) (T : Tab) (G : Glob) (ops : List Oper) (i : Nat) (fr : Fr) (H : AH) (K : Fr → AH → Prop) : Prop :=
  match ops[i]? with
  | none => False
  | some o => match o.guard with
    | some _ => False
    | none => match astep T G fr H o.op with
      | some (p, v, H') => dstB o fr.n ∧ p ∧ K (fr.put o.dst v) H'
      | none => False
def runA (P : Program) (T : Tab) (G : Glob) (ops : List Oper) (Q : AQ) : Nat → List Bool → Fr → AH → Prop
  | 0, l, fr, H => ready2 ops (fun i => l.getD i false) = [] ∧ Q .normal fr H
  | n + 1, l, fr, H => match ready2 ops (fun i => l.getD i false) with
    | [] => Q .normal fr H
    | rs => allP rs fun i => stepA P T G ops i fr H (runA P T G ops Q n (l.set i true))

theorem ready2_mem {ops : Array Oper} {l : List Bool} (hl : l.length = ops.size) {i : Nat} : i ∈ Region.ready .any ops ⟨l⟩ ↔ i ∈ ready2 ops.toList (fun i => l.getD i false) := by
  have hg : ∀ j d, (Array.mk l).getD j d = l.getD j d := fun j d => by
    rw [Array.getD_eq_getD_getElem?]; simp [List.getD]
  have hg2 : ∀ j, j < ops.size → l.getD j true = l.getD j false := fun j hj => by
    simp [List.getD, List.getElem?_eq_getElem (show j < l.length by omega)]
  rw [ready_iff]
  unfold ready2
  simp only [hg, List.mem_filter, List.mem_range, Bool.and_eq_true, Bool.not_eq_true']
  constructor
  · rintro ⟨h0, o, ho, h⟩
    have hlt := (Array.getElem?_eq_some_iff.1 ho).1
    refine ⟨by simpa using hlt, by rw [← hg2 i hlt]; exact h0, ?_⟩
    rw [show ops.toList[i]? = some o by simpa using ho, Option.map_some, Option.getD_some, List.all_eq_true]
    exact h
  · rintro ⟨h0, h1, h2⟩
    have hlt : i < ops.size := by simpa using h0
    refine ⟨by rw [hg2 i hlt]; exact h1, ops[i], by simp [hlt], ?_⟩
    rw [show ops.toList[i]? = some ops[i] by simp [hlt], Option.map_some, Option.getD_some, List.all_eq_true] at h2
    exact h2

theorem runA_ok (hT : T.ok P = true) : ∀ (n : Nat) (l : List Bool) (fr : Fr) (H : AH), l.length = ops.size → runA P T G ops.toList Q n l fr H → AAny P G ops n ⟨l⟩ fr H Q := by
  intro n
  induction n with
  | zero =>
    intro l fr H hl h κ I a w hg hr hf
    refine ⟨?_, ⟨.normal, fr, H, κ, I, trivial, hr, hf, Stp.refl .., h.2⟩⟩
    rw [List.eq_nil_iff_forall_not_mem]
    intro i hi
    rw [ready2_mem hl, h.1] at hi
    cases hi
  | succ n ih =>
    intro l fr H hl h κ I a w hg hr hf
    have hdone : Q .normal fr H → wpAny P .any ops (APost κ I H w Q) (n + 1) ⟨l⟩ a w → True := fun _ _ => trivial
    unfold runA at h
    split at h
    · rename_i he
      have : Region.ready .any ops ⟨l⟩ = [] := by
        rw [List.eq_nil_iff_forall_not_mem]
        intro i hi
        rw [ready2_mem hl, he] at hi
        cases hi
      exact wpAny_done this ⟨.normal, fr, H, κ, I, trivial, hr, hf, Stp.refl .., h⟩ _
    · rename_i rs hne
      have hmem := allP_mem h
      refine ⟨fun he => ?_, fun i hi => ?_⟩
      · exfalso
        cases hrs : ready2 ops.toList (fun i => l.getD i false) with
        | nil => exact hne hrs
        | cons i rs' =>
          have : i ∈ Region.ready .any ops ⟨l⟩ := by rw [ready2_mem hl, hrs]; exact List.mem_cons_self
          rw [he] at this
          cases this
      · have hk := hmem i ((ready2_mem hl).1 hi)
        obtain ⟨h0, o, ho, _⟩ := ready_iff.1 hi
        unfold stepA at hk
        rw [show ops.toList[i]? = some o by simpa using ho] at hk
        simp only at hk
        split at hk
        · exact hk.elim
        · rename_i hgd
          split at hk
          · rename_i p v H' hs
            obtain ⟨h1, h2, h3⟩ := hk
            unfold wpOp
            simp only [ho]
            rw [if_pos (wanted_run hf (wanted_none hgd))]
            left
            obtain ⟨u, κ', I', w', h4, h5, h6, h7⟩ := astep_ok hT hs h2 κ I a w hg hr hf
            have hf2 := (h7.frel hr hf).put (dst_of h1) h5
            have hset : (⟨l⟩ : Array Bool).setIfInBounds i true = ⟨l.set i true⟩ := by
              apply Array.ext'
              simp
            have := wpAny_monoQ (fun _ _ _ => APost.back h7) _ _ _ _ (ih (l.set i true) _ H' (by simpa using hl) h3 κ' I' _ w' (h7.grel hr hg) h6 hf2)
            rw [← hset] at this
            unfold Oper.wp
            rcases h4 with h4 | ⟨h4, rfl⟩ <;> rw [h4] <;> exact this
          · exact hk.elim

theorem AWp.drawA (hT : T.ok P = true) (hmix : P.follows .mixedOrders = true) {id : Nat} {l : List Oper} (m n : Nat) (bs : List Bool) (hck : drawOk l.toArray m = true) (hn : l.toArray.size - m = n) (hb : lis m l.toArray.size = ⟨bs⟩)
    (h : runD P T G l.toArray H (fun fr' => AAny P G l.toArray n ⟨bs⟩ fr' H Q) (l.take m) fr) : AWp P G (.region id l.toArray true) fr H Q := by
  refine AWp.draw hmix m hck ?_
  rw [hn, hb]
  exact runD_ok hT (fun fr fr2 he k => fun κ I a w hg hr hf => k κ I a w hg hr (he.frel hf)) _ _ h
end
end Go.Proofs.Ax
/- AX, part X: the tree of nodes, as data; further rules to walk by. -/
set_option linter.unusedVariables false
set_option linter.unusedSimpArgs false
namespace Go.Proofs.Ax
open Go.RowKit

structure At where
  space : List UInt8
  name : List UInt8
  value : List UInt8
  deriving DecidableEq, Inhabited
inductive Nd where
  | mk (kind : Int) (space name : List UInt8) (attrs : List At) (kids : List Nd) (data : List UInt8)
instance : Inhabited Nd := ⟨.mk 0 [] [] [] [] []⟩
namespace Nd
def kind : Nd → Int | mk k _ _ _ _ _ => k
def space : Nd → List UInt8 | mk _ s _ _ _ _ => s
def name : Nd → List UInt8 | mk _ _ n _ _ _ => n
def attrs : Nd → List At | mk _ _ _ a _ _ => a
def kids : Nd → List Nd | mk _ _ _ _ l _ => l
def data : Nd → List UInt8 | mk _ _ _ _ _ d => d
end Nd
def attrC (a : At) : List AV := [.str a.space, .str a.name, .str a.value]
mutual
def nodeC : Nd → List AV
  | .mk k s n a l d => [.int .i64 k, .str s, .str n, .lit (a.map attrC), .lit (nodesC l), .str d]
def nodesC : List Nd → List (List AV)
  | [] => []
  | x :: l => nodeC x :: nodesC l
end
theorem nodesC_eq (l : List Nd) : nodesC l = l.map nodeC := by
  induction l with
  | nil => simp [nodesC]
  | cons x l ih => simp [nodesC, ih]
theorem nodeC_eq (x : Nd) : nodeC x = [.int .i64 x.kind, .str x.space, .str x.name, .lit (x.attrs.map attrC), .lit (x.kids.map nodeC), .str x.data] := by
  cases x with
  | mk k s n a l d => simp only [nodeC, nodesC_eq]; rfl
theorem nodeC_len (x : Nd) : (nodeC x).length = 6 := by rw [nodeC_eq]; rfl
theorem rd_node (x : Nd) : rdV true 6 (nodeC x) 0 = .agg (nodeC x) := by rw [nodeC_eq]; rfl
theorem rd_node0 (x : Nd) : rdV false 1 (nodeC x) 0 = .int .i64 x.kind := by rw [nodeC_eq]; rfl
theorem rd_node1 (x : Nd) : rdV false 1 (nodeC x) 1 = .str x.space := by rw [nodeC_eq]; rfl
theorem rd_node2 (x : Nd) : rdV false 1 (nodeC x) 2 = .str x.name := by rw [nodeC_eq]; rfl
theorem rd_node3 (x : Nd) : rdV false 1 (nodeC x) 3 = .lit (x.attrs.map attrC) := by rw [nodeC_eq]; rfl
theorem rd_node4 (x : Nd) : rdV false 1 (nodeC x) 4 = .lit (x.kids.map nodeC) := by rw [nodeC_eq]; rfl
theorem rd_node5 (x : Nd) : rdV false 1 (nodeC x) 5 = .str x.data := by rw [nodeC_eq]; rfl
theorem gt_node0 (x : Nd) : (nodeC x).getD 0 .any = .int .i64 x.kind := by rw [nodeC_eq]; rfl
theorem gt_node1 (x : Nd) : (nodeC x).getD 1 .any = .str x.space := by rw [nodeC_eq]; rfl
theorem gt_node2 (x : Nd) : (nodeC x).getD 2 .any = .str x.name := by rw [nodeC_eq]; rfl
theorem gt_node3 (x : Nd) : (nodeC x).getD 3 .any = .lit (x.attrs.map attrC) := by rw [nodeC_eq]; rfl
theorem gt_node4 (x : Nd) : (nodeC x).getD 4 .any = .lit (x.kids.map nodeC) := by rw [nodeC_eq]; rfl
theorem gt_node5 (x : Nd) : (nodeC x).getD 5 .any = .str x.data := by rw [nodeC_eq]; rfl
theorem take_node (x : Nd) : (nodeC x).take 6 = nodeC x := by rw [nodeC_eq]; rfl
theorem take_attr (x : At) : (attrC x).take 3 = attrC x := rfl
theorem gt_attr0 (x : At) : (attrC x).getD 0 .any = .str x.space := rfl
theorem gt_attr1 (x : At) : (attrC x).getD 1 .any = .str x.name := rfl
theorem gt_attr2 (x : At) : (attrC x).getD 2 .any = .str x.value := rfl
theorem cells_node (x : Nd) : (AV.agg (nodeC x)).cells = true := by rw [nodeC_eq]; rfl
theorem all_node (x : Nd) : (nodeC x).all AV.cell = true := by rw [nodeC_eq]; rfl
theorem all_attr (x : At) : (attrC x).all AV.cell = true := rfl
theorem cellsOf_node (x : Nd) : cellsOf (.agg (nodeC x)) = nodeC x := rfl
theorem rens_nodeC (σ : Nat → Option Nat) (x : Nd) : AV.rens σ (nodeC x) = nodeC x := by rw [nodeC_eq]; simp [AV.rens, AV.ren]
theorem ren_node (σ : Nat → Option Nat) (x : Nd) : AV.ren σ (.agg (nodeC x)) = .agg (nodeC x) := by simp [AV.ren, rens_nodeC]
theorem rens_attrC (σ : Nat → Option Nat) (x : At) : AV.rens σ (attrC x) = attrC x := by simp [attrC, AV.rens, AV.ren]
theorem attrC_len (x : At) : (attrC x).length = 3 := rfl
theorem rd_attr (x : At) : rdV true 3 (attrC x) 0 = .agg (attrC x) := rfl
theorem rd_attr0 (x : At) : rdV false 1 (attrC x) 0 = .str x.space := rfl
theorem rd_attr1 (x : At) : rdV false 1 (attrC x) 1 = .str x.name := rfl
theorem rd_attr2 (x : At) : rdV false 1 (attrC x) 2 = .str x.value := rfl
theorem cells_attr (x : At) : (AV.agg (attrC x)).cells = true := rfl
theorem cellsOf_attr (x : At) : cellsOf (.agg (attrC x)) = attrC x := rfl
theorem ren_attr (σ : Nat → Option Nat) (x : At) : AV.ren σ (.agg (attrC x)) = .agg (attrC x) := by simp [AV.ren, rens_attrC]
theorem aeqs_attr (x y : At) : aeqs (attrC x) (attrC y) = some (x == y) := by
  cases x; cases y
  simp only [attrC, aeqs, Option.map_some, Option.some.injEq]
  rw [Bool.eq_iff_iff]
  simp
theorem kinds_attr (x : At) : kindsOk [.str, .str, .str] (attrC x) = true := rfl
/-- Nothing in the tree is longer than what a machine holds. -/
def At.ok (a : At) : Prop := a.space.length ≤ 1099511627776 ∧ a.name.length ≤ 1099511627776 ∧ a.value.length ≤ 1099511627776
inductive Nd.ok : Nd → Prop where
  | mk {x : Nd} (h1 : x.space.length ≤ 1099511627776) (h2 : x.name.length ≤ 1099511627776) (h3 : x.data.length ≤ 1099511627776) (h4 : x.attrs.length ≤ 1099511627776) (h5 : x.kids.length ≤ 1099511627776)
      (h6 : ∀ a ∈ x.attrs, a.ok) (h7 : ∀ y ∈ x.kids, y.ok) : x.ok
theorem Nd.ok.spec {x : Nd} (h : x.ok) : x.space.length ≤ 1099511627776 ∧ x.name.length ≤ 1099511627776 ∧ x.data.length ≤ 1099511627776 ∧ x.attrs.length ≤ 1099511627776 ∧ x.kids.length ≤ 1099511627776 ∧ (∀ a ∈ x.attrs, a.ok) ∧ (∀ y ∈ x.kids, y.ok) := by
  cases h with
  | mk h1 h2 h3 h4 h5 h6 h7 => exact ⟨h1, h2, h3, h4, h5, h6, h7⟩
theorem Nd.kid_lt {x y : Nd} (h : y ∈ x.kids) : SizeOf.sizeOf y < SizeOf.sizeOf x := by
  cases x with
  | mk k s n a l d =>
    have := List.sizeOf_lt_of_mem (show y ∈ l from h)
    simp only [Nd.mk.sizeOf_spec]
    omega
/-- From the leaves up. -/
theorem Nd.up {M : Nd → Prop} (h : ∀ x, (∀ y ∈ x.kids, M y) → M x) (x : Nd) : M x := by
  have : ∀ (n : Nat) (x : Nd), SizeOf.sizeOf x < n → M x := by
    intro n
    induction n with
    | zero => intro x hx; omega
    | succ n ih => intro x hx; exact h x fun y hy => ih y (by have := Nd.kid_lt hy; omega)
  exact this _ x (Nat.lt_succ_self _)
/-- The element behind those that have been seen. -/
theorem getD_mid {α β : Type} (f : α → β) (l : List α) (y : β) (r : List β) (d : β) : (l.map f ++ y :: r).getD l.length d = y := by
  simp [List.getD]
theorem len_mid {α β : Type} (f : α → β) (l : List α) (r : List β) : (l.map f ++ r).length = l.length + r.length := by simp
theorem int_succ (n : Nat) : ((n : Int) + 1) = ((n + 1 : Nat) : Int) := rfl

section
variable {P : Program} {T : Tab} {G : Glob} {ops : Array Oper} {rest : List Oper} {o : Oper} {fr : Fr} {H : AH} {Q : AQ}
/-- A call that hands back one of several values. -/
theorem AOps.call_ex {f : Operand} {args : Array Operand} {ts : Array TypeId} {g : FuncId} {first cap : List AV} {fn : Func} (hw : wantedA ops fr o true) (hd : dstOk o fr.n) (ho : o.op = .call { callee := .value f, args, argTypes := ts }) (hf' : aeval G fr f = .func (.func g) first cap)
    (hg' : P.funcs[g]? = some fn) (hb : fn.body.isNone = false) (hn : (fn.name == "runtime.NumGoroutine") = false) {args' : List AV} (ha : AV.rens (fun _ => none) (first ++ args.toList.map (aeval G fr) ++ cap) = args') {α : Type} {r : α → AV}
    (hc : ACalls P G g args' [] (fun e H => (∃ x, e = .ret (r x)) ∧ H = [])) (h : ∀ x, AOps P G ops rest (fr.put o.dst ((r x).ren (fun _ => none))) H Q) : AOps P G ops (o :: rest) fr H Q :=
  AOps.call_pure hw hd ho hf' hg' hb hn ha hc (by rintro e ⟨x, rfl⟩; exact h x)
theorem runD_okS (hT : T.ok P = true) {l : List Oper} (h : runD P T G ops H (fun fr' => AOps P G ops rest fr' H Q) l fr) : ADraw P G ops H (fun fr' => AOps P G ops rest fr' H Q) l fr :=
  runD_ok hT (fun fr fr2 he k => fun κ I a w hg hr hf => k κ I a w hg hr (he.frel hf)) _ _ h
theorem runD_okA (hT : T.ok P = true) {l : List Oper} {n : Nat} {bs : Array Bool} (h : runD P T G ops H (fun fr' => AAny P G ops n bs fr' H Q) l fr) : ADraw P G ops H (fun fr' => AAny P G ops n bs fr' H Q) l fr :=
  runD_ok hT (fun fr fr2 he k => fun κ I a w hg hr hf => k κ I a w hg hr (he.frel hf)) _ _ h
theorem ADraw.step {K0 : Fr → Prop} (hT : T.ok P = true) {p : Prop} {v : AV} (hw : wantedA ops fr o true) (hd : dstOk o fr.n) (h : astep T G fr H o.op = some (p, v, H)) (hp : p) (hr : ADraw P G ops H K0 rest (fr.put o.dst v)) : ADraw P G ops H K0 (o :: rest) fr :=
  ⟨hd, v, Quiet.step hT hw h hp, hr⟩
theorem ADraw.row {K0 : Fr → Prop} (hT : T.ok P = true) {p : Prop} {n e sz : Nat} {ys : List (List AV)} (hw : wantedA ops fr o true) (hd : dstOk o fr.n) (h : astep T G fr H o.op = some (p, .slice H.length n, H ++ [.row e sz ys])) (hn : n = ys.length) (hp : p) (hr : ADraw P G ops H K0 rest (fr.put o.dst (frzV ys))) : ADraw P G ops H K0 (o :: rest) fr :=
  ⟨hd, _, Quiet.row hT hn hw h hp, hr⟩
theorem ADraw.skip {K0 : Fr → Prop} (hw : wantedA ops fr o false) (hd : dstOk o fr.n) (hr : ADraw P G ops H K0 rest (fr.put o.dst (.tuple []))) : ADraw P G ops H K0 (o :: rest) fr :=
  ⟨hd, _, Quiet.skip (wanted_only hw), hr⟩
theorem ADraw.nil {K0 : Fr → Prop} (h : K0 fr) : ADraw P G ops H K0 [] fr := h
theorem ADraw.split {K0 : Fr → Prop} (hK : ∀ fr fr2, FrEq fr fr2 → K0 fr → K0 fr2) (t : Nat) {c : Bool} (hc : fr.get t = .bool c) {l : List Oper} (h1 : c = true → ADraw P G ops H K0 l (fr.put (some t) (.bool true))) (h2 : c = false → ADraw P G ops H K0 l (fr.put (some t) (.bool false))) : ADraw P G ops H K0 l fr := by
  cases hb : c with
  | true => exact ADraw.congr hK _ _ _ (FrEq.known (hb ▸ hc)) (h1 hb)
  | false => exact ADraw.congr hK _ _ _ (FrEq.known (hb ▸ hc)) (h2 hb)
theorem keq_ops {l : List Oper} : ∀ fr fr2, FrEq fr fr2 → AOps P G ops l fr H Q → AOps P G ops l fr2 H Q :=
  fun fr fr2 he k => fun κ I a w hg hr hf => k κ I a w hg hr (he.frel hf)
theorem keq_any {n : Nat} {bs : Array Bool} : ∀ fr fr2, FrEq fr fr2 → AAny P G ops n bs fr H Q → AAny P G ops n bs fr2 H Q :=
  fun fr fr2 he k => fun κ I a w hg hr hf => k κ I a w hg hr (he.frel hf)
theorem ADraw.guardS {l : List Oper} {j t : Nat} {want c : Bool} (hg : o.guard = some (j, want)) (ht : (ops[j]?).bind (·.dst) = some t) (hc : fr.get t = .bool c) (h1 : c = true → ADraw P G ops H (fun fr' => AOps P G ops l fr' H Q) (o :: rest) (fr.put (some t) (.bool true))) (h2 : c = false → ADraw P G ops H (fun fr' => AOps P G ops l fr' H Q) (o :: rest) (fr.put (some t) (.bool false))) : ADraw P G ops H (fun fr' => AOps P G ops l fr' H Q) (o :: rest) fr :=
  ADraw.split keq_ops t hc h1 h2
/-- A region in any order: m quiet operations, then the others, each behind all before it. -/
theorem ADraw.serial {l : List Oper} (m : Nat) (hck : drawOk l.toArray m = true) (hs : serial l m = true)
    (h : ADraw P G l.toArray H (fun fr' => AOps P G l.toArray (l.drop m) fr' H Q) (l.take m) fr) : ADraw P G l.toArray H (fun fr' => AAny P G l.toArray (l.toArray.size - m) (lis m l.toArray.size) fr' H Q) (l.take m) fr := by
  have hm : m ≤ l.toArray.size := by
    simp only [drawOk, Bool.and_eq_true, Nat.ble_eq] at hck
    exact hck.1.1
  have mono : ∀ (l2 : List Oper) (fr : Fr), ADraw P G l.toArray H (fun fr' => AOps P G l.toArray (l.drop m) fr' H Q) l2 fr → ADraw P G l.toArray H (fun fr' => AAny P G l.toArray (l.toArray.size - m) (lis m l.toArray.size) fr' H Q) l2 fr := by
    intro l2
    induction l2 with
    | nil => intro fr h; exact AAny.serial hs hm h
    | cons o l2 ih => intro fr h; obtain ⟨a, v, b, c⟩ := h; exact ⟨a, v, b, ih _ c⟩
  exact mono _ _ h
theorem AWp.drawS (hmix : P.follows .mixedOrders = true) {id : Nat} {l : List Oper} (m : Nat) (hck : drawOk l.toArray m = true) (hs : serial l m = true)
    (h : ADraw P G l.toArray H (fun fr' => AOps P G l.toArray (l.drop m) fr' H Q) (l.take m) fr) : AWp P G (.region id l.toArray true) fr H Q :=
  AWp.draw hmix m hck (ADraw.serial m hck hs h)
theorem AWp.drawB (hmix : P.follows .mixedOrders = true) {id : Nat} {l : List Oper} (m n : Nat) (bs : List Bool) (hck : drawOk l.toArray m = true) (hn : l.toArray.size - m = n) (hb : lis m l.toArray.size = ⟨bs⟩)
    (h : ADraw P G l.toArray H (fun fr' => AAny P G l.toArray n ⟨bs⟩ fr' H Q) (l.take m) fr) : AWp P G (.region id l.toArray true) fr H Q := by
  refine AWp.draw hmix m hck ?_
  rw [hn, hb]
  exact h
/-! ### The same rules, the frame laid out -/
section
variable {s : List (Nat × AV)} {n : Nat} {df : List ADef} {d : Nat} {K0 : Fr → Prop}
theorem blt_dst (hdst : o.dst = some d) (hn : Nat.blt d n = true) : dstOk o n := dst_some hdst hn
theorem AOps.step1 (hT : T.ok P = true) {p : Prop} {v : AV} {H' : AH} (hdst : o.dst = some d) (hn : Nat.blt d n = true) (hw : wantedA ops ⟨s, n, df⟩ o true) (h : astep T G ⟨s, n, df⟩ H o.op = some (p, v, H')) (hp : p) (hr : AOps P G ops rest ⟨(d, v) :: s, n, df⟩ H' Q) : AOps P G ops (o :: rest) ⟨s, n, df⟩ H Q :=
  AOps.step hT hw (dst_some hdst hn) h hp (by rw [hdst]; exact hr)
theorem AOps.step0 (hT : T.ok P = true) {p : Prop} {v : AV} {H' : AH} (hdst : o.dst = none) (hw : wantedA ops ⟨s, n, df⟩ o true) (h : astep T G ⟨s, n, df⟩ H o.op = some (p, v, H')) (hp : p) (hr : AOps P G ops rest ⟨s, n, df⟩ H' Q) : AOps P G ops (o :: rest) ⟨s, n, df⟩ H Q :=
  AOps.step hT hw (dst_none hdst) h hp (by rw [hdst]; exact hr)
theorem ADraw.step1 (hT : T.ok P = true) {p : Prop} {v : AV} (hdst : o.dst = some d) (hn : Nat.blt d n = true) (hw : wantedA ops ⟨s, n, df⟩ o true) (h : astep T G ⟨s, n, df⟩ H o.op = some (p, v, H)) (hp : p) (hr : ADraw P G ops H K0 rest ⟨(d, v) :: s, n, df⟩) : ADraw P G ops H K0 (o :: rest) ⟨s, n, df⟩ :=
  ADraw.step hT hw (dst_some hdst hn) h hp (by rw [hdst]; exact hr)
theorem ADraw.row1 (hT : T.ok P = true) {p : Prop} {k e sz : Nat} {ys ys' : List (List AV)} (hdst : o.dst = some d) (hn : Nat.blt d n = true) (hw : wantedA ops ⟨s, n, df⟩ o true) (h : astep T G ⟨s, n, df⟩ H o.op = some (p, .slice H.length k, H ++ [.row e sz ys])) (hk : k = ys.length) (hy : ys.map (AV.rens fun _ => none) = ys') (hp : p) (hr : ADraw P G ops H K0 rest ⟨(d, .lit ys') :: s, n, df⟩) : ADraw P G ops H K0 (o :: rest) ⟨s, n, df⟩ := by
  subst hy
  exact ADraw.row hT hw (dst_some hdst hn) h hk hp (by rw [hdst]; exact hr)
theorem AOps.skip1 (hdst : o.dst = some d) (hn : Nat.blt d n = true) (hw : wantedA ops ⟨s, n, df⟩ o false) (hr : AOps P G ops rest ⟨(d, .tuple []) :: s, n, df⟩ H Q) : AOps P G ops (o :: rest) ⟨s, n, df⟩ H Q :=
  AOps.skip hw (dst_some hdst hn) (by rw [hdst]; exact hr)
theorem ADraw.skip1 (hdst : o.dst = some d) (hn : Nat.blt d n = true) (hw : wantedA ops ⟨s, n, df⟩ o false) (hr : ADraw P G ops H K0 rest ⟨(d, .tuple []) :: s, n, df⟩) : ADraw P G ops H K0 (o :: rest) ⟨s, n, df⟩ :=
  ADraw.skip hw (dst_some hdst hn) (by rw [hdst]; exact hr)
theorem AOps.guard1 {j t : Nat} {want c : Bool} {p : Prop} (hg : o.guard = some (j, want)) (ht : (ops[j]?).bind (·.dst) = some t) (hc : (Fr.mk s n df).get t = .bool c) (hp : (c = true) = p) (h1 : p → AOps P G ops (o :: rest) ⟨(t, .bool true) :: s, n, df⟩ H Q) (h2 : ¬ p → AOps P G ops (o :: rest) ⟨(t, .bool false) :: s, n, df⟩ H Q) : AOps P G ops (o :: rest) ⟨s, n, df⟩ H Q :=
  AOps.guardS hg ht hc (fun h => h1 (hp ▸ h)) (fun h => h2 (by rw [← hp, h]; simp))
theorem ADraw.guard1 {l : List Oper} {j t : Nat} {want c : Bool} {p : Prop} (hg : o.guard = some (j, want)) (ht : (ops[j]?).bind (·.dst) = some t) (hc : (Fr.mk s n df).get t = .bool c) (hp : (c = true) = p) (h1 : p → ADraw P G ops H (fun fr' => AOps P G ops l fr' H Q) (o :: rest) ⟨(t, .bool true) :: s, n, df⟩) (h2 : ¬ p → ADraw P G ops H (fun fr' => AOps P G ops l fr' H Q) (o :: rest) ⟨(t, .bool false) :: s, n, df⟩) : ADraw P G ops H (fun fr' => AOps P G ops l fr' H Q) (o :: rest) ⟨s, n, df⟩ :=
  ADraw.guardS hg ht hc (fun h => h1 (hp ▸ h)) (fun h => h2 (by rw [← hp, h]; simp))
theorem AWp.condP1 {c : Operand} {x y : Code} {b : Bool} {p : Prop} (hb : aeval G fr c = .bool b) (hp : (b = true) = p) (ht : p → AWp P G x fr H Q) (hf : ¬ p → AWp P G y fr H Q) : AWp P G (.cond c x y) fr H Q :=
  AWp.cond hb (fun h => ht (hp ▸ h)) (fun h => hf (by rw [← hp, h]; simp))
theorem AOps.call1 {f : Operand} {args : Array Operand} {ts : Array TypeId} {g : FuncId} {first cap : List AV} {fn : Func} (hdst : o.dst = some d) (hn0 : Nat.blt d n = true) (hw : wantedA ops ⟨s, n, df⟩ o true) (ho : o.op = .call { callee := .value f, args, argTypes := ts }) (hf' : aeval G ⟨s, n, df⟩ f = .func (.func g) first cap)
    (hg' : P.funcs[g]? = some fn) (hb : fn.body.isNone = false) (hn : (fn.name == "runtime.NumGoroutine") = false) {args' : List AV} (ha : AV.rens (fun _ => none) (first ++ args.toList.map (aeval G ⟨s, n, df⟩) ++ cap) = args') {r r' : AV}
    (hc : ACalls P G g args' [] (fun e H => e = .ret r ∧ H = [])) (hr : r.ren (fun _ => none) = r') (h : AOps P G ops rest ⟨(d, r') :: s, n, df⟩ H Q) : AOps P G ops (o :: rest) ⟨s, n, df⟩ H Q :=
  AOps.call_ret hw (dst_some hdst hn0) ho hf' hg' hb hn ha hc hr (by rw [hdst]; exact h)
theorem ADraw.call1 {f : Operand} {args : Array Operand} {ts : Array TypeId} {g : FuncId} {first cap : List AV} {fn : Func} (hdst : o.dst = some d) (hn0 : Nat.blt d n = true) (hw : wantedA ops ⟨s, n, df⟩ o true) (ho : o.op = .call { callee := .value f, args, argTypes := ts }) (hf' : aeval G ⟨s, n, df⟩ f = .func (.func g) first cap)
    (hg' : P.funcs[g]? = some fn) (hb : fn.body.isNone = false) (hn : (fn.name == "runtime.NumGoroutine") = false) {args' : List AV} (ha : AV.rens (fun _ => none) (first ++ args.toList.map (aeval G ⟨s, n, df⟩) ++ cap) = args') {r r' : AV}
    (hc : ACalls P G g args' [] (fun e H => e = .ret r ∧ H = [])) (hr : r.ren (fun _ => none) = r') (h : ADraw P G ops H K0 rest ⟨(d, r') :: s, n, df⟩) : ADraw P G ops H K0 (o :: rest) ⟨s, n, df⟩ :=
  ADraw.call_ret hw (dst_some hdst hn0) ho hf' hg' hb hn ha hc hr (by rw [hdst]; exact h)
theorem AOps.callx1 {f : Operand} {args : Array Operand} {ts : Array TypeId} {g : FuncId} {first cap : List AV} {fn : Func} (hdst : o.dst = some d) (hn0 : Nat.blt d n = true) (hw : wantedA ops ⟨s, n, df⟩ o true) (ho : o.op = .call { callee := .value f, args, argTypes := ts }) (hf' : aeval G ⟨s, n, df⟩ f = .func (.func g) first cap)
    (hg' : P.funcs[g]? = some fn) (hb : fn.body.isNone = false) (hn : (fn.name == "runtime.NumGoroutine") = false) {args' : List AV} (ha : AV.rens (fun _ => none) (first ++ args.toList.map (aeval G ⟨s, n, df⟩) ++ cap) = args') {α : Type} {r r' : α → AV}
    (hc : ACalls P G g args' [] (fun e H => (∃ x, e = .ret (r x)) ∧ H = [])) (hr : ∀ x, (r x).ren (fun _ => none) = r' x) (h : ∀ x, AOps P G ops rest ⟨(d, r' x) :: s, n, df⟩ H Q) : AOps P G ops (o :: rest) ⟨s, n, df⟩ H Q :=
  AOps.call_ex hw (dst_some hdst hn0) ho hf' hg' hb hn ha hc (fun x => by rw [hdst, hr x]; exact h x)
theorem AOps.knownT {j t : Nat} {want b : Bool} (hg : o.guard = some (j, want)) (ht : (ops[j]?).bind (·.dst) = some t) (hc : (Fr.mk s n df).get t = .bool b) (hb : b = true ∨ b = false) (h : AOps P G ops (o :: rest) ⟨s, n, df⟩ H Q) : AOps P G ops (o :: rest) ⟨s, n, df⟩ H Q := h
theorem ADraw.knownT {j t : Nat} {want b : Bool} (hg : o.guard = some (j, want)) (ht : (ops[j]?).bind (·.dst) = some t) (hc : (Fr.mk s n df).get t = .bool b) (hb : b = true ∨ b = false) (h : ADraw P G ops H K0 (o :: rest) ⟨s, n, df⟩) : ADraw P G ops H K0 (o :: rest) ⟨s, n, df⟩ := h
end
end
end Go.Proofs.Ax
/- AX, part Y: parts of code told apart by what stands between them. -/
set_option linter.unusedVariables false
set_option linter.unusedSimpArgs false
namespace Go.Proofs.Ax
open Go.RowKit
section
variable {P : Program} {T : Tab} {G : Glob} {fr : Fr} {H : AH} {Q : AQ}

/-- One part, then another, with a state of one's own between them. -/
theorem AWp.seqM {x y : Code} {σ : Type} (M : σ → Fr) (MH : σ → AH) (h1 : AWp P G x fr H (AQ.then (fun fr' H' => ∃ z, KSt H.length fr' H' (M z) (MH z)) Q)) (h2 : ∀ z, AWp P G y (M z) (MH z) Q) : AWp P G (.seq x y) fr H Q := by
  intro κ I a w hg hr hf
  refine wp_seq (wp_mono (h1 κ I a w hg hr hf) fun _ _ _ hp => hp.then hg hr fun fr' H' κ' I' a' w' hn hg' hr' hf' hs => ?_)
  obtain ⟨z, hk⟩ := hn
  obtain ⟨κ2, I2, m1, m2, m3⟩ := hk κ I H w κ' I' a' w' rfl hr hs hr' hf'
  exact wp_mono (h2 z κ2 I2 a' w' (m3.grel hr hg) m1 m2) fun _ _ _ => APost.back m3

theorem AWp.thenM {x y : Code} {σ : Type} (M : σ → Fr) (MH : σ → AH) (h1 : AWp P G x fr H (AQ.then (fun fr' H' => ∃ z, KSt H.length fr' H' (M z) (MH z)) Q)) (h2 : ∀ z, AWp P G y (M z) (MH z) Q) : AWp P G x fr H (AQ.then (fun fr' H' => AWp P G y fr' H' Q) Q) := by
  intro κ I a w hg hr hf
  refine wp_mono (h1 κ I a w hg hr hf) fun e a' w' hp => ?_
  obtain ⟨x, fr', H', κ', I', q1, q2, q3, q4, q5⟩ := hp
  cases x with
  | normal =>
    obtain ⟨z, hk⟩ := q5
    obtain ⟨κ2, I2, m1, m2, m3⟩ := hk κ I H w κ' I' a' w' rfl hr q4 q2 q3
    refine ⟨.normal, M z, MH z, κ2, I2, ?_, m1, m2, m3, h2 z⟩
    cases e <;> exact q1
  | _ => exact ⟨_, fr', H', κ', I', q1, q2, q3, q4, q5⟩

/-- A loop in its block, then another part. -/
theorem AWp.loopM {i : Nat} {c y : Code} {σ τ : Type} (S : σ → Fr) (SH : σ → AH) (μ : σ → Nat) (M : τ → Fr) (MH : τ → AH) (x0 : σ) (h0 : ASt fr H (S x0) (SH x0))
    (round : ∀ x, AWp P G c (S x) (SH x) (AQ.then (fun fr' H' => ∃ x', μ x' < μ x ∧ KSt (SH x).length fr' H' (S x') (SH x')) (AQ.inBlock i (AQ.then (fun fr' H' => ∃ z, KSt H.length fr' H' (M z) (MH z)) Q))))
    (rest : ∀ z, AWp P G y (M z) (MH z) Q) : AWp P G (.block i (.loop c)) fr H (AQ.then (fun fr' H' => AWp P G y fr' H' Q) Q) :=
  AWp.thenM M MH (AWp.block (AWp.loopK S SH μ x0 h0 round)) rest

theorem AWp.isLoop {i : Nat} {c : Code} (h : AWp P G (.block i (.loop c)) fr H Q) : AWp P G (.block i (.loop c)) fr H Q := h

theorem mid_end {τ : Type} {M : τ → Fr} {MH : τ → AH} {n0 : Nat} (z : τ) (hH : H = MH z) (h1 : (M z).n = fr.n) (h2 : (M z).d = fr.d) (h3 : FrAll (M z).s fr) : ∃ z, KSt n0 fr H (M z) (MH z) := by
  subst hH
  exact ⟨z, .le (.intro h1 h2 h3)⟩
/-- The same, where the blocks from n0 on are dropped. -/
def FrAllR (σ : Nat → Option Nat) : List (Nat × AV) → Fr → Prop
  | [], _ => True
  | (i, x) :: l, fr => (fr.get i).ren σ = x ∧ FrAllR σ l fr
theorem FrAllR.all {σ : Nat → Option Nat} : ∀ {l : List (Nat × AV)}, FrAllR σ l fr → FrAll l (fr.ren σ)
  | [], _ => trivial
  | (i, x) :: l, h => ⟨by rw [get_ren]; exact h.1, FrAllR.all h.2⟩
theorem round_endD {σ : Type} {S : σ → Fr} {SH : σ → AH} {μ : σ → Nat} {x : σ} {n0 : Nat} (x' : σ) (hm : μ x' < μ x) (hn : n0 ≤ H.length) (hH : H.keep n0 [] = SH x') (h1 : (S x').n = fr.n) (h2 : (S x').d = fr.d.map (ADef.ren (keepS n0 []))) (h3 : FrAllR (keepS n0 []) (S x').s fr) : ∃ x', μ x' < μ x ∧ KSt n0 fr H (S x') (SH x') := by
  refine ⟨x', hm, (KSt.keep n0 [] (Nat.le_refl _) hn (by simp) List.nodup_nil).trans ?_⟩
  rw [hH]
  exact .le (.intro h1 h2 h3.all)
theorem mid_endD {τ : Type} {M : τ → Fr} {MH : τ → AH} {n0 : Nat} (z : τ) (n : Nat) (hn0 : n0 ≤ n) (hn : n ≤ H.length) (hH : H.keep n [] = MH z) (h1 : (M z).n = fr.n) (h2 : (M z).d = fr.d.map (ADef.ren (keepS n []))) (h3 : FrAllR (keepS n []) (M z).s fr) : ∃ z, KSt n0 fr H (M z) (MH z) := by
  refine ⟨z, (KSt.keep n [] hn0 hn (by simp) List.nodup_nil).trans ?_⟩
  rw [hH]
  exact .le (.intro h1 h2 h3.all)
theorem KSt.same {n0 : Nat} {fr2 : Fr} {H2 : AH} (hH : H = H2) (h1 : fr2.n = fr.n) (h2 : fr2.d = fr.d) (h3 : FrAll fr2.s fr) : KSt n0 fr H fr2 H2 := by
  subst hH
  exact .le (.intro h1 h2 h3)
theorem KSt.dropd {n0 : Nat} (n : Nat) {fr2 : Fr} {H2 : AH} (hn0 : n0 ≤ n) (hn : n ≤ H.length) (hH : H.keep n [] = H2) (h1 : fr2.n = fr.n) (h2 : fr2.d = fr.d.map (ADef.ren (keepS n []))) (h3 : FrAllR (keepS n []) fr2.s fr) : KSt n0 fr H fr2 H2 := by
  refine (KSt.keep n [] hn0 hn (by simp) List.nodup_nil).trans ?_
  rw [hH]
  exact .le (.intro h1 h2 h3.all)
theorem size_lit (l : List UInt8) : ByteArray.size ⟨⟨l⟩⟩ = l.length := rfl
end
end Go.Proofs.Ax
/- AX, part Z: a function's end: results from slots and cells, rows that are frozen, blocks that go. -/
set_option linter.unusedVariables false
set_option linter.unusedSimpArgs false
namespace Go.Proofs.Ax
open Go.RowKit

/-- The results, as the frame and the heap tell. -/
def resA (T : Tab) (fr : Fr) (H : AH) : List ResultVar → Option (Prop × List AV)
  | [] => some (True, [])
  | .tmp t :: l => match resA T fr H l with
    | some (p, vs) => some (p, fr.get t :: vs)
    | none => none
  | .cell a t :: l => match sLoad T (fun _ => none) fr H t (.tmp a), resA T fr H l with
    | some (p, v, _), some (q, vs) => some (p ∧ q, v :: vs)
    | _, _ => none

/-- What stands for a value and a world stands in another way, relative to a beginning with n0 blocks. -/
def VSt (n0 : Nat) (v : AV) (H : AH) (v2 : AV) (H2 : AH) : Prop :=
  ∀ κ0 I0 H0 w0 κ I w u, H0.length = n0 → HRel κ0 I0 H0 w0 → Stp κ0 I0 H0 w0 κ I H w → HRel κ I H w → VR I w κ v u → ∃ κ' I', HRel κ' I' H2 w ∧ VR I' w κ' v2 u ∧ Stp κ0 I0 H0 w0 κ' I' H2 w

theorem VSt.refl {n0 : Nat} {v : AV} {H : AH} : VSt n0 v H v H := fun κ0 I0 H0 w0 κ I w u _ _ hs hr hv => ⟨κ, I, hr, hv, hs⟩
theorem VSt.trans {n0 : Nat} {v v2 v3 : AV} {H H2 H3 : AH} (h : VSt n0 v H v2 H2) (k : VSt n0 v2 H2 v3 H3) : VSt n0 v H v3 H3 := by
  intro κ0 I0 H0 w0 κ I w u hl hr0 hs hr hv
  obtain ⟨κ', I', h1, h2, h3⟩ := h κ0 I0 H0 w0 κ I w u hl hr0 hs hr hv
  exact k κ0 I0 H0 w0 κ' I' w u hl hr0 h3 h1 h2
theorem VSt.keep {n0 : Nat} {v : AV} {H : AH} (xs : List Nat) (hn : n0 ≤ H.length) (hxs : ∀ x ∈ xs, n0 ≤ x ∧ x < H.length) (hnd : xs.Nodup) : VSt n0 v H (v.ren (keepS n0 xs)) (H.keep n0 xs) := by
  intro κ0 I0 H0 w0 κ I w u hl hr0 hs hr hv
  exact ⟨_, I, hr.keep n0 xs hn hxs hnd, hv.ren (kapKeep_spec κ n0 xs), hs.keep hr0 n0 xs hn (by omega) hxs⟩
theorem VSt.frz {n0 : Nat} {v : AV} {H : AH} (id : Nat) {e sz : Nat} {elems : List (List AV)} (hB : H[id]? = some (.row e sz elems)) : VSt n0 v H (AV.frz id elems.length (frzV elems) v) (H.set id .dead) := by
  intro κ0 I0 H0 w0 κ I w u hl hr0 hs hr hv
  have hok := hr.ok id _ hB
  have hok' := hok
  obtain ⟨c, us, hc, h1, h2⟩ := hok'
  have hI : ∀ b, (fun b => I b ∨ hblk c.hdr = some b) b ↔ I b ∨ hblk c.hdr = some b := fun _ => Iff.rfl
  obtain ⟨hr', hst⟩ := hr.dead (I' := fun b => I b ∨ hblk c.hdr = some b) hB rfl hc hI
  have hx := VR.frozen hok hc hI
  exact ⟨κ, _, hr', (hst.vr hr hv).frz hc h1 hx rfl, hs.trans hst⟩
theorem VSt.drop {v v2 : AV} {H : AH} (hv : v.ren (fun _ => none) = v2) : VSt 0 v H v2 [] := by
  have := VSt.keep (n0 := 0) (v := v) (H := H) [] (Nat.zero_le _) (by simp) List.nodup_nil
  have e : keepS 0 [] = fun _ => none := by funext i; simp [keepS, posIn]
  rw [e, hv] at this
  exact this

section
variable {P : Program} {T : Tab} {G : Glob} {fr : Fr} {H : AH}

theorem resA_run (hT : T.ok P = true) {κ : Kap} {I : Nat → Prop} {a : Act} {w : World} (hr : HRel κ I H w) (hf : FRel I w κ fr a) (g : ResultVar → Sem Value)
    (hg : ∀ t, g (.tmp t) = pure (a.tmps.getD t undef)) (hg2 : ∀ t i, g (.cell t i) = (do Go.loadVar i (← Go.asAddr (a.tmps.getD t undef)))) : ∀ (l : List ResultVar) (p : Prop) (vs : List AV), resA T fr H l = some (p, vs) → p → ∃ us : List Value, (l.mapM g).run P w = .ok us w ∧ VRs I w κ vs us := by
  intro l
  induction l with
  | nil => intro p vs h _; cases h; exact ⟨[], rfl, .nil⟩
  | cons x l ih =>
    intro p vs h hp
    cases x with
    | tmp t =>
      simp only [resA] at h
      split at h <;> cases h
      rename_i vs' hl
      obtain ⟨us, h1, h2⟩ := ih _ _ hl hp
      exact ⟨a.tmps.getD t undef :: us, by simp only [List.mapM_cons, Sem.run_bind, hg, Sem.run_pure, Result.andThen_ok, h1], .cons (hf.get t) h2⟩
    | cell t i =>
      simp only [resA] at h
      split at h <;> cases h
      rename_i p1 v H' q vs' hs hl
      obtain ⟨us, h1, h2⟩ := ih _ _ hl hp.2
      unfold sLoad at hs
      split at hs <;> (try (cases hs; done))
      rename_i ti hi
      have hTy := Tab.ty hT hi
      have fin : ∀ {el : List AV} {off : Nat}, RdAt I w κ el off ti.size (a.tmps.getD t undef) → off + ti.size ≤ el.length → v = rdV ti.d.agg ti.size el off → ∃ us : List Value, ((ResultVar.cell t i :: l).mapM g).run P w = .ok us w ∧ VRs I w κ (v :: vs') us := by
        intro el off hrd hel hv
        obtain ⟨u, e1, e2⟩ := load_rd (P := P) hTy hrd hel
        obtain ⟨b, ov, hb, _⟩ := hrd
        have e3 : (Go.loadVar i ⟨b, ov, none⟩).run P w = .ok u w := by
          rw [hb] at e1
          simpa [Instr.loadAt, Instr.sureAddr] using e1
        refine ⟨u :: us, ?_, .cons (hv ▸ e2) h2⟩
        simp only [List.mapM_cons, Sem.run_bind, hg2, hb, Go.asAddr, Sem.run_pure, Result.andThen_ok, e3, h1]
      have hv := hf.get t
      simp only [aeval] at hs
      split at hs <;> (try (cases hs; done))
      · rename_i id k off st hx
        split at hs <;> cases hs
        rename_i e sz elems hB
        rw [hx] at hv
        obtain ⟨c, us2, hc, k1, k2, k3, k5, k6, k7⟩ := hr.ok id _ hB
        obtain ⟨⟨q1, q2, q3⟩, q4⟩ := hp
        have hel : (elems.getD k []).length = sz := k5 _ (by simp [List.getD, List.getElem?_eq_getElem q2])
        exact fin (rd_ptr hr hB hv q1 q2 q3) (by omega) rfl
      · rename_i elems k off hx
        cases hs
        rw [hx] at hv
        obtain ⟨⟨q1, q2⟩, q4⟩ := hp
        exact fin (rd_lptr hv q1 q2) q2 rfl

theorem run_resultsR (hT : T.ok P = true) {fn : Func} {κ : Kap} {I : Nat → Prop} {a : Act} {w : World} (hr : HRel κ I H w) (hf : FRel I w κ fr a) {p : Prop} {vs : List AV} (h : resA T fr H fn.results.toList = some (p, vs)) (hp : p) : ∃ u, (results fn a.tmps).run P w = .ok u w ∧ VR I w κ (packR vs) u := by
  unfold results
  rw [Sem.run_bind, Array.mapM_eq_mapM_toList, Sem.run_map]
  have := resA_run hT hr hf (fun
    | .tmp t => pure (a.tmps.getD t undef)
    | .cell c t => do Go.loadVar t (← Go.asAddr (a.tmps.getD c undef))) (fun _ => rfl) (fun _ _ => rfl) fn.results.toList p vs h hp
  obtain ⟨us, h1, h2⟩ := this
  have ht : VR I w κ (.tuple vs) (.tuple ⟨us⟩) := .tuple h2.1 h2.2
  have key : ∃ u, (match (motive := List Value → Value) us with | [x] => x | l => Value.tuple ⟨l⟩) = u ∧ VR I w κ (packR vs) u := by
    obtain ⟨hl, hv⟩ := h2
    match us, vs, hl, hv with
    | [], [], _, _ => exact ⟨_, rfl, ht⟩
    | [x], [y], _, hv => exact ⟨_, rfl, hv 0 y rfl⟩
    | x :: y :: l, x' :: y' :: l', _, _ => exact ⟨_, rfl, ht⟩
  obtain ⟨u, e1, e2⟩ := key
  refine ⟨u, ?_, e2⟩
  refine (congrArg (fun r : Result (List Value) => (r.andThen fun a w' => Result.ok a.toArray w').andThen fun a w' => Sem.run P (pure (if h : a.size = 1 then a[0] else Value.tuple a)) w') h1).trans ?_
  rw [← e1]
  simp only [Result.andThen_ok, Sem.run_pure]
  clear e1 e2 h1 h2 ht
  match us with
  | [] => rfl
  | [x] => rfl
  | x :: y :: l => rfl

/-- A function's body; its results may stand in cells. -/
def bodyR (T : Tab) (n0 : Nat) (rs : List ResultVar) (Q : AEnd → AH → Prop) : AQ
  | .normal, fr, H | .ret, fr, H => fr.d = [] ∧ ∃ p vs v2 H2, resA T fr H rs = some (p, vs) ∧ p ∧ VSt n0 (packR vs) H v2 H2 ∧ Q (.ret v2) H2
  | .panic v, fr, H => fr.d = [] ∧ ∃ v2 H2, VSt n0 v H v2 H2 ∧ Q (.panic v2) H2
  | _, _, _ => False

theorem ACalls.of_bodyR (hT : T.ok P = true) {f : FuncId} {fn : Func} {c : Code} {args : List AV} {Q : AEnd → AH → Prop} {rs : List ResultVar} {n0 : Nat} (hf : P.funcs[f]? = some fn) (hb : fn.body = some c) (hrs : fn.results.toList = rs) (hn0 : H.length = n0)
    (h : AWp P G c (Fr.enter args fn.ntmps) H (bodyR T n0 rs Q)) : ACalls P G f args H Q := by
  subst hrs hn0
  intro κ I us w hg hr ha
  refine calls_of_wp hf hb (wp_mono (h κ I _ w hg hr ?_) ?_)
  · refine ⟨?_, fun i x hx => ?_, rfl, fun i x hx => by simp [Fr.enter] at hx⟩
    · simp [Fr.enter, ha.1]
    · obtain ⟨_, h2⟩ := enterS_lookup hx
      have h3 := ha.2 i x (by simpa using h2)
      have hlt : i < us.length := by
        rw [ha.1]
        exact (List.getElem?_eq_some_iff.1 (by simpa using h2)).1
      have e : ((⟨us⟩ : Array Value) ++ Array.replicate (fn.ntmps - us.length) undef).getD i undef = us.getD i undef := by
        rw [Array.getD_eq_getD_getElem?, Array.getElem?_append_left (by simpa using hlt)]
        simp [List.getD]
      have e' : (⟨us⟩ : Array Value).size = us.length := rfl
      rw [e', e]
      exact h3
  · rintro e a' w' ⟨x, fr', H', κ', I', h1, h2, h3, h4, h5⟩
    have hd : fr'.d = [] → a'.defers = [] := fun hd => List.eq_nil_of_length_eq_zero (by rw [h3.dlen, hd]; rfl)
    have fin : fr'.d = [] → (∃ p vs v2 H2, resA T fr' H' fn.results.toList = some (p, vs) ∧ p ∧ VSt H.length (packR vs) H' v2 H2 ∧ Q (.ret v2) H2) → a'.defers = [] ∧ ∃ v, (results fn a'.tmps).run P w' = .ok v w' ∧ CPost κ I H w Q (.returned v) w' := by
      rintro hd' ⟨p, vs, v2, H2, q1, q2, q3, q4⟩
      obtain ⟨u, m1, m2⟩ := run_resultsR hT h2 h3 q1 q2
      obtain ⟨κ2, I2, m3, m4, m5⟩ := q3 κ I H w κ' I' w' u rfl hr h4 h2 m2
      exact ⟨hd hd', u, m1, .ret _, H2, κ2, I2, m4, m3, m5, q4⟩
    cases x <;> cases e <;> simp only [ERel] at h1 <;> simp only [bodyR] at h5
    · exact fin h5.1 h5.2
    · exact fin h5.1 h5.2
    · obtain ⟨hd', v2, H2, q1, q2⟩ := h5
      obtain ⟨u, rfl, hu⟩ := h1
      obtain ⟨κ2, I2, m3, m4, m5⟩ := q1 κ I H w κ' I' w' u rfl hr h4 h2 hu
      exact ⟨hd hd', .panic _, H2, κ2, I2, ⟨u, rfl, m4⟩, m3, m5, q2⟩

theorem bodyR.ret {n0 : Nat} {rs : List ResultVar} {Q : AEnd → AH → Prop} {p : Prop} {vs : List AV} {v v2 : AV} {H2 : AH} (hd : fr.d = []) (hres : resA T fr H rs = some (p, vs)) (hp : p) (hv : packR vs = v) (hst : VSt n0 v H v2 H2) (hq : Q (.ret v2) H2) : bodyR T n0 rs Q .ret fr H :=
  ⟨hd, p, vs, v2, H2, hres, hp, hv ▸ hst, hq⟩
end
end Go.Proofs.Ax
/- AX, part Nl: a nil slice is a slice of nothing. -/
set_option linter.unusedVariables false
set_option linter.unusedSimpArgs false
namespace Go.Proofs.Ax
open Go.RowKit

mutual
def AV.nl : AV → AV
  | .nils => .lit []
  | .lit e => .lit (AV.nlss e)
  | .agg cs => .agg (AV.nls cs)
  | .tuple cs => .tuple (AV.nls cs)
  | .iface t v => .iface t (AV.nl v)
  | .any => .any
  | .bool b => .bool b
  | .int k n => .int k n
  | .str s => .str s
  | .nilp => .nilp
  | .ptr a b c d => .ptr a b c d
  | .lptr e k o => .lptr e k o
  | .slice a b => .slice a b
  | .func f a b => .func f a b
  | .nilf => .nilf
  | .obj i => .obj i
  | .sub a b c d => .sub a b c d
  | .yield a => .yield a
  | .clit e => .clit (AV.nlss e)
  | .nilm => .nilm
  | .nili => .nili
def AV.nls : List AV → List AV
  | [] => []
  | x :: l => AV.nl x :: AV.nls l
def AV.nlss : List (List AV) → List (List AV)
  | [] => []
  | x :: l => AV.nls x :: AV.nlss l
end
theorem AV.nls_eq (l : List AV) : AV.nls l = l.map AV.nl := by
  induction l with
  | nil => simp [AV.nls]
  | cons x l ih => simp [AV.nls, ih]
theorem AV.nlss_eq (l : List (List AV)) : AV.nlss l = l.map AV.nls := by
  induction l with
  | nil => simp [AV.nlss]
  | cons x l ih => simp [AV.nlss, ih]
theorem flatten_nls (l : List (List AV)) : (AV.nlss l).flatten = l.flatten.map AV.nl := by
  rw [AV.nlss_eq]
  induction l with
  | nil => rfl
  | cons x l ih => simp [ih, AV.nls_eq]
theorem nlss_len (l : List (List AV)) : (AV.nlss l).length = l.length := by rw [AV.nlss_eq]; simp
theorem nlss_sz {sz : Nat} {l : List (List AV)} (h : ∀ e ∈ l, e.length = sz) : ∀ e ∈ AV.nlss l, e.length = sz := by
  rw [AV.nlss_eq]
  intro e he
  obtain ⟨y, hy, rfl⟩ := List.mem_map.1 he
  simpa [AV.nls_eq] using h y hy

theorem VR.nl {I : Nat → Prop} {w : World} {κ : Kap} {x : AV} {v : Value} (h : VR I w κ x v) : VR I w κ x.nl v := by
  induction h with
  | any => exact .any
  | bool => exact .bool
  | int => exact .int
  | str h => exact .str h
  | nilp => exact .nilp
  | ptr c hc hst hp h => exact .ptr c hc hst hp h
  | lptr b o sz us hb hsz hc h1 h _ => exact .lptr b o sz us hb hsz hc h1 h
  | nils => exact .lit (elems := []) (a := none) (cp := 0) 0 (fun _ => Value.nilFunc) (Nat.zero_le _) (Nat.zero_le _) (by simp) (fun h => absurd rfl h) (by intro j hj; simp at hj) (fun j x hx => by simp at hx)
  | slice c hc hst hl h => exact .slice c hc hst hl h
  | @lit κ elems a cp sz us hcp hm hsz hc h1 h ih =>
    simp only [AV.nl]
    have hlen := nlss_len elems
    have := VR.lit (κ := κ) (I := I) (w := w) (elems := AV.nlss elems) (a := a) (cp := cp) sz us (by rw [hlen]; exact hcp) (by rw [hlen]; exact hm) (nlss_sz hsz)
      (fun hne => by rw [hlen]; exact hc fun e => hne (by rw [e]; simp [AV.nlss])) (by rw [hlen]; exact h1) (fun j x hx => by
        rw [flatten_nls, List.getElem?_map] at hx
        obtain ⟨y, hy, rfl⟩ := Option.map_eq_some_iff.1 hx
        exact ih j y hy)
    rw [hlen] at this
    exact this
  | func h1 h2 h3 h4 _ _ => exact .func h1 h2 h3 h4
  | nilf => exact .nilf
  | obj c hc hv h => exact .obj c hc hv h
  | sub c hc hst hl h => exact .sub c hc hst hl h
  | yield c hc hv h => exact .yield c hc hv h
  | @clit κ elems a _ ih =>
    have := VR.clit (elems := AV.nlss elems) (a := a) (by rw [nlss_len]; exact ih)
    rw [nlss_len] at this
    exact this
  | nilm => exact .nilm
  | iface _ ih => exact .iface ih
  | nili => exact .nili
  | agg h1 _ ih =>
    simp only [AV.nl, AV.nls_eq]
    refine .agg (by simpa using h1) (fun i x hx => ?_)
    rw [List.getElem?_map] at hx
    obtain ⟨y, hy, rfl⟩ := Option.map_eq_some_iff.1 hx
    exact ih i y hy
  | tuple h1 _ ih =>
    simp only [AV.nl, AV.nls_eq]
    refine .tuple (by simpa using h1) (fun i x hx => ?_)
    rw [List.getElem?_map] at hx
    obtain ⟨y, hy, rfl⟩ := Option.map_eq_some_iff.1 hx
    exact ih i y hy

def AB.nl : AB → AB
  | .row e sz elems => .row e sz (AV.nlss elems)
  | B => B
theorem BOk.nl {I : Nat → Prop} {w : World} {κ : Kap} {id : Nat} {B : AB} (h : BOk I w κ id B) : BOk I w κ id B.nl := by
  cases B with
  | row e sz elems =>
    obtain ⟨c, us, hc, h1, h2, h3, h4, h5, h6⟩ := h
    refine ⟨c, us, hc, by rw [nlss_len]; exact h1, h2, by rw [nlss_len]; exact h3, nlss_sz h4, h5, fun j x hx => ?_⟩
    rw [flatten_nls, List.getElem?_map] at hx
    obtain ⟨y, hy, rfl⟩ := Option.map_eq_some_iff.1 hx
    exact (h6 j y hy).nl
  | _ => exact h
theorem nl_live (B : AB) : B.nl.live = B.live := by cases B <;> rfl
theorem own_nl {κ : Kap} {H : AH} {b : Nat} : own κ (H.map AB.nl) b ↔ own κ H b := by
  constructor
  · rintro ⟨id, B, c, h1, h2, h3, h4⟩
    rw [List.getElem?_map] at h1
    obtain ⟨B0, hB, rfl⟩ := Option.map_eq_some_iff.1 h1
    exact ⟨id, B0, c, hB, by rw [← nl_live]; exact h2, h3, h4⟩
  · rintro ⟨id, B, c, h1, h2, h3, h4⟩
    exact ⟨id, B.nl, c, by rw [List.getElem?_map, h1]; rfl, by rw [nl_live]; exact h2, h3, h4⟩
theorem HRel.nl {κ : Kap} {I : Nat → Prop} {H : AH} {w : World} (h : HRel κ I H w) : HRel κ I (H.map AB.nl) w := by
  refine ⟨fun id => by rw [List.length_map]; exact h.dom id, fun id B hB => ?_, ?_, fun b hb => ⟨(h.sep b hb).1, fun ho => (h.sep b hb).2 (own_nl.1 ho)⟩⟩
  · rw [List.getElem?_map] at hB
    obtain ⟨B0, hB0, rfl⟩ := Option.map_eq_some_iff.1 hB
    exact (h.ok id B0 hB0).nl
  · intro id id' B B' c c' b hB hl hB' hl' hc hc' hb hb'
    rw [List.getElem?_map] at hB hB'
    obtain ⟨B0, hB0, rfl⟩ := Option.map_eq_some_iff.1 hB
    obtain ⟨B1, hB1, rfl⟩ := Option.map_eq_some_iff.1 hB'
    exact h.inj id id' B0 B1 c c' b hB0 (by rw [← nl_live]; exact hl) hB1 (by rw [← nl_live]; exact hl') hc hc' hb hb'
theorem Stp.nl {κ κ' : Kap} {I I' : Nat → Prop} {H H' : AH} {w w' : World} (h : Stp κ I H w κ' I' H' w') : Stp κ I H w κ' I' (H'.map AB.nl) w' :=
  ⟨h.os, h.tape, h.output, h.size, h.imm, h.kept, h.fresh, fun b hb => h.owned b (own_nl.1 hb), h.ext⟩
def Fr.nl (fr : Fr) : Fr := { fr with s := fr.s.map fun p => (p.1, p.2.nl) }
theorem FRel.nl {I : Nat → Prop} {w : World} {κ : Kap} {fr : Fr} {a : Act} (h : FRel I w κ fr a) : FRel I w κ fr.nl a :=
  ⟨h.size, fun i x hx => by
    simp only [Fr.nl, lookup_map] at hx
    obtain ⟨y, hy, rfl⟩ := Option.map_eq_some_iff.1 hx
    exact (h.slot i y hy).nl, h.dlen, h.defs⟩
theorem get_nl (fr : Fr) (t : Nat) : fr.nl.get t = (fr.get t).nl := by
  simp only [Fr.get, Fr.nl, lookup_map]
  cases fr.s.lookup t <;> rfl

section
variable {fr : Fr} {H : AH}
theorem ASt.nl : ASt fr H fr.nl (H.map AB.nl) := fun κ I a w hr hf => ⟨κ, I, hr.nl, hf.nl, (Stp.refl ..).nl⟩
theorem VSt.nl {n0 : Nat} {v : AV} : VSt n0 v H v.nl (H.map AB.nl) := fun κ0 I0 H0 w0 κ I w u _ _ hs hr hv => ⟨κ, I, hr.nl, hv.nl, hs.nl⟩
/-- Frames, with nil slices told as slices of nothing. -/
def FrAllN : List (Nat × AV) → Fr → Prop
  | [], _ => True
  | (i, x) :: l, fr => (fr.get i).nl = x ∧ FrAllN l fr
theorem FrAllN.all : ∀ {l : List (Nat × AV)}, FrAllN l fr → FrAll l fr.nl
  | [], _ => trivial
  | (i, x) :: l, h => ⟨by rw [get_nl]; exact h.1, FrAllN.all h.2⟩
theorem KSt.nlS {n0 : Nat} {fr2 : Fr} {H2 : AH} (hH : H.map AB.nl = H2) (h1 : fr2.n = fr.n) (h2 : fr2.d = fr.d) (h3 : FrAllN fr2.s fr) : KSt n0 fr H fr2 H2 := by
  refine (KSt.of ASt.nl).trans ?_
  rw [hH]
  exact .le (.intro h1 h2 h3.all)
theorem KSt.nlD {n0 : Nat} (n : Nat) {fr2 : Fr} {H2 : AH} (hn0 : n0 ≤ n) (hn : n ≤ H.length) (hH : AH.keep (H.map AB.nl) n [] = H2) (h1 : fr2.n = fr.n) (h2 : fr2.d = fr.d.map (ADef.ren (keepS n []))) (h3 : FrAllR (keepS n []) fr2.s fr.nl) : KSt n0 fr H fr2 H2 := by
  refine (KSt.of ASt.nl).trans (KSt.dropd n hn0 (by simpa using hn) hH h1 h2 h3)
end

/-! nodes and attributes have no nil slices -/
theorem nls_attrC (x : At) : AV.nls (attrC x) = attrC x := by simp [attrC, AV.nls, AV.nl]
theorem nlss_attrs (l : List At) : AV.nlss (l.map attrC) = l.map attrC := by
  rw [AV.nlss_eq, List.map_map]; exact List.map_congr_left fun x _ => nls_attrC x
theorem nls_nodeC (x : Nd) : AV.nls (nodeC x) = nodeC x := by
  refine Nd.up (M := fun x => AV.nls (nodeC x) = nodeC x) (fun x ih => ?_) x
  have : AV.nlss (x.kids.map nodeC) = x.kids.map nodeC := by
    rw [AV.nlss_eq, List.map_map]; exact List.map_congr_left fun y hy => ih y hy
  rw [nodeC_eq]
  simp only [AV.nls, AV.nl, nlss_attrs, this]
theorem nlss_nodes (l : List Nd) : AV.nlss (l.map nodeC) = l.map nodeC := by
  rw [AV.nlss_eq, List.map_map]; exact List.map_congr_left fun x _ => nls_nodeC x
theorem nlss_app (l r : List (List AV)) : AV.nlss (l ++ r) = AV.nlss l ++ AV.nlss r := by simp [AV.nlss_eq]
theorem nodeC_mk (k : Int) (s n : List UInt8) (a : List At) (l : List Nd) (d : List UInt8) : nodeC (.mk k s n a l d) = [.int .i64 k, .str s, .str n, .lit (a.map attrC), .lit (l.map nodeC), .str d] := by rw [nodeC_eq]; rfl
theorem drop_node (x : Nd) : (nodeC x).drop 6 = [] := by rw [nodeC_eq]; rfl
theorem rens_nodes (σ : Nat → Option Nat) (l : List Nd) : (l.map nodeC).map (AV.rens σ) = l.map nodeC := by
  rw [List.map_map]; exact List.map_congr_left fun x _ => rens_nodeC σ x
theorem rens_attrs (σ : Nat → Option Nat) (l : List At) : (l.map attrC).map (AV.rens σ) = l.map attrC := by
  rw [List.map_map]; exact List.map_congr_left fun x _ => rens_attrC σ x
theorem maxLen_eq : maxLen = 9223372036854775807 := rfl
theorem int_pred (n : Nat) : ((n + 1 : Nat) : Int) - 1 = (n : Int) := by omega
theorem set_mid {α β : Type} (f : α → β) (l : List α) (y : β) (r : List β) (z : β) : (l.map f ++ y :: r).set l.length z = l.map f ++ z :: r := by
  rw [List.set_append_right _ _ (by simp)]; simp
end Go.Proofs.Ax
/- AX, part E1: the evaluator: operations with tests in Bool, heaps with the newest block ahead. -/
set_option linter.unusedVariables false
set_option linter.unusedSimpArgs false
namespace Go.Proofs.Ax
open Go.RowKit

/-- What an operation does to the heap. -/
inductive HC where
  | same
  | push (b : AB)
  | set (id : Nat) (b : AB)
  | setPush (id : Nat) (b b' : AB)
def HC.app (H : AH) : HC → AH
  | .same => H
  | .push b => H ++ [b]
  | .set id b => H.set id b
  | .setPush id b b' => H.set id b ++ [b']
def nth {α : Type} : List α → Nat → Option α
  | [], _ => none
  | x :: l, n => match n with | 0 => some x | n + 1 => nth l n
def setAt {α : Type} : List α → Nat → α → List α
  | [], _, _ => []
  | x :: l, n, y => match n with | 0 => y :: l | n + 1 => x :: setAt l n y
/-- A heap, the newest block ahead; how many blocks; how many stood there at the function's beginning; which of those were written to. -/
structure RH where
  l : List AB
  n : Nat
  b0 : Nat
  ws : List Nat
def RH.H (R : RH) : AH := R.l.reverse
def RH.get (R : RH) (i : Nat) : Option AB := bif Nat.blt i R.n then nth R.l (Nat.sub (Nat.sub R.n 1) i) else none
def memN (i : Nat) : List Nat → Bool
  | [] => false
  | j :: l => bif Nat.beq i j then true else memN i l
def RH.mark (R : RH) (i : Nat) : List Nat := bif Nat.blt i R.b0 then (bif memN i R.ws then R.ws else i :: R.ws) else R.ws
def RH.app (R : RH) : HC → RH
  | .same => R
  | .push b => { R with l := b :: R.l, n := Nat.succ R.n }
  | .set i b => { R with l := setAt R.l (Nat.sub (Nat.sub R.n 1) i) b, ws := R.mark i }
  | .setPush i b b' => { R with l := b' :: setAt R.l (Nat.sub (Nat.sub R.n 1) i) b, n := Nat.succ R.n, ws := R.mark i }

abbrev Fs := List (Nat × AV)
def fget : Fs → Nat → AV
  | [], _ => .any
  | p :: l, t => bif Nat.beq t p.1 then p.2 else fget l t
def lkT : TT → Nat → Option TI
  | [], _ => none
  | p :: l, t => bif Nat.beq t p.1 then some p.2 else lkT l t
def lkE : List (Nat × List TD) → Nat → Option (List TD)
  | [], _ => none
  | p :: l, t => bif Nat.beq t p.1 then some p.2 else lkE l t
def opdB (G : Glob) (s : Fs) : Operand → AV
  | .tmp t => fget s t
  | .const v => absC v
  | .global g => (G g).getD .any
  | .func f => .func (.func f) [] []

def lenB {α : Type} (l : List α) (n : Nat) : Bool := Nat.beq l.length n
def allLen (l : List (List AV)) (n : Nat) : Bool := l.all fun z => Nat.beq z.length n
def nat? (x : Int) : Option Nat := match x with | .ofNat n => some n | .negSucc _ => none
def intLt (a b : Int) : Bool := match a, b with
  | .ofNat a, .ofNat b => Nat.blt a b
  | .negSucc _, .ofNat _ => true
  | .ofNat _, .negSucc _ => false
  | .negSucc a, .negSucc b => Nat.blt b a
def intEq (a b : Int) : Bool := match a, b with
  | .ofNat a, .ofNat b => Nat.beq a b
  | .negSucc a, .negSucc b => Nat.beq a b
  | _, _ => false

abbrev RB := Option (AV × HC)
def orB (x y : RB) : RB := match x with | some r => some r | none => y
section
variable (T : Tab) (G : Glob) (s : Fs) (R : RH)
def elemsB (R : RH) (sz : Nat) : AV → Option (List (List AV))
  | .lit ys => bif allLen ys sz then some ys else none
  | .nils => some []
  | .slice id st => match R.get id with
    | some (.row _ sz' ys) => bif Nat.beq sz' sz && Nat.beq st ys.length then some ys else none
    | _ => none
  | _ => none

def bLoad (t : Nat) (x : Operand) : RB :=
  match lkT T.T t with
  | none => none
  | some i =>
    match opdB G s x with
    | .ptr id k off st => match R.get id with
      | some (.row _ sz elems) => bif lenB elems st && (Nat.blt k st && Nat.ble (off + i.size) sz) then some (rdV i.d.agg i.size (elems.getD k []) off, .same) else none
      | _ => none
    | .lptr elems k off => bif Nat.blt k elems.length && Nat.ble (off + i.size) (elems.getD k []).length then some (rdV i.d.agg i.size (elems.getD k []) off, .same) else none
    | _ => none
def bStore (t : Nat) (x y : Operand) : RB :=
  match lkT T.T t with
  | none => none
  | some i =>
    match opdB G s x with
    | .ptr id k off st => match R.get id with
      | some (.row e sz elems) => bif lenB elems st && (Nat.blt k st && ((opdB G s y).cells && (lenB (cellsOf (opdB G s y)) i.size && Nat.ble (off + i.size) sz))) then
          some (.any, .set id (.row e sz (setAt elems k (splice (elems.getD k []) off (cellsOf (opdB G s y)))))) else none
      | _ => none
    | _ => none
def bFieldAddr (t : Nat) (x : Operand) (n : Nat) : RB :=
  match lkT T.T t with
  | some { d := .struct fs, .. } => match fs[n]? with
    | some y => match opdB G s x with
      | .ptr id k off st => some (.ptr id k (off + y.1) st, .same)
      | .lptr elems k off => some (.lptr elems k (off + y.1), .same)
      | _ => none
    | none => none
  | _ => none
def bField (t : Nat) (x : Operand) (n : Nat) : RB :=
  match lkT T.T t with
  | some { d := .struct fs, .. } => match fs[n]? with
    | some y => match lkT T.T y.2.1, opdB G s x with
      | some j, .agg cs => bif Nat.ble (y.1 + j.size) cs.length then some (rdV j.d.agg j.size cs y.1, .same) else none
      | _, _ => none
    | none => none
  | _ => none
def bIndexAddr (t : Nat) (x ix : Operand) : RB :=
  match lkT T.T t, opdB G s ix with
  | some { d := .slice e, .. }, .int _ z => match lkT T.T e, nat? z with
    | some j, some n => match opdB G s x with
      | .slice id st => match R.get id with
        | some (.row _ sz elems) => bif Nat.beq sz j.size && (lenB elems st && Nat.blt n st) then some (.ptr id n 0 st, .same) else none
        | _ => none
      | .lit elems => bif Nat.blt n elems.length && lenB (elems.getD n []) j.size then some (.lptr elems n 0, .same) else none
      | _ => none
    | _, _ => none
  | some { d := .array m e, .. }, .int _ z => match lkT T.T e, nat? z with
    | some j, some n => match opdB G s x with
      | .ptr id kk off st => bif Nat.blt n m then some (.ptr id kk (off + n * j.size) st, .same) else none
      | .lptr elems kk off => bif Nat.blt n m then some (.lptr elems kk (off + n * j.size), .same) else none
      | _ => none
    | _, _ => none
  | _, _ => none
def bIndex (t : Nat) (x ix : Operand) : RB :=
  match lkT T.T t, opdB G s ix with
  | some { d := .str, .. }, .int _ z => match opdB G s x, nat? z with
    | .str b, some n => match nth b n with
      | some c => some (.int .u8 (.ofNat c.toNat), .same)
      | none => none
    | _, _ => none
  | some { d := .array m e, .. }, .int _ z => match lkT T.T e, opdB G s x, nat? z with
    | some j, .agg cs, some n => bif Nat.blt n m && Nat.ble (n * j.size + j.size) cs.length then some (rdV j.d.agg j.size cs (n * j.size), .same) else none
    | _, _, _ => none
  | _, _ => none
def optN (x : Option Operand) (d : Nat) : Option Nat :=
  match x with
  | none => some d
  | some y => match opdB G s y with
    | .int _ n => nat? n
    | _ => none
def bSlice (t : Nat) (x : Operand) (lo hi : Option Operand) : RB :=
  match lkT T.T t with
  | some { d := .str, .. } => match opdB G s x with
    | .str b => match optN G s lo 0, optN G s hi b.length with
      | some l, some h => bif Nat.ble l h && Nat.ble h b.length then some (.str ((b.take h).drop l), .same) else none
      | _, _ => none
    | _ => none
  | some { d := .slice e, .. } => match lkT T.T e, opdB G s x with
    | some j, .lit elems => match optN G s lo 0, optN G s hi elems.length with
      | some l, some h => bif Nat.ble l h && (Nat.ble h elems.length && allLen elems j.size) then some (.lit ((elems.take h).drop l), .same) else none
      | _, _ => none
    | _, _ => none
  | _ => none
def bSliceOwn (t : Nat) (x : Operand) (lo hi : Option Operand) : RB :=
  match lkT T.T t with
  | some { d := .slice e, .. } => match lkT T.T e, opdB G s x with
    | some j, .slice id st => match R.get id with
      | some (.row _ sz elems) => match optN G s lo 0, optN G s hi st with
        | some l, some h => bif Nat.beq sz j.size && (lenB elems st && (Nat.ble l h && Nat.ble h st)) then some (bif Nat.beq l 0 && Nat.beq h st then .slice id st else .sub id st l (h - l), .same) else none
        | _, _ => none
      | _ => none
    | _, _ => none
  | _ => none
def bIndexSub (t : Nat) (x ix : Operand) : RB :=
  match lkT T.T t, opdB G s ix with
  | some { d := .slice e, .. }, .int _ z => match lkT T.T e, nat? z, opdB G s x with
    | some j, some n, .sub id st lo len => match R.get id with
      | some (.row _ sz elems) => bif Nat.beq sz j.size && (lenB elems st && Nat.blt n len) then some (.ptr id (lo + n) 0 st, .same) else none
      | _ => none
    | _, _, _ => none
  | _, _ => none
def bLen0 (t : Nat) (x : Operand) : RB :=
  match lkT T.T t with
  | none => none
  | some i => match opdB G s x with
    | .str b => (match i.d with | .str => some (.int .i64 (.ofNat b.length), .same) | _ => none)
    | .lit e => (match i.d with | .slice _ => some (.int .i64 (.ofNat e.length), .same) | _ => none)
    | .slice _ st => (match i.d with | .slice _ => some (.int .i64 (.ofNat st), .same) | _ => none)
    | .nils => (match i.d with | .slice _ => some (.int .i64 (.ofNat 0), .same) | _ => none)
    | .nilm => (match i.d with | .map .. => some (.int .i64 (.ofNat 0), .same) | _ => none)
    | _ => none
def bLen (t : Nat) (x : Operand) : RB :=
  orB (bLen0 T G s t x) (match lkT T.T t, opdB G s x with
    | some { d := .slice _, .. }, .sub _ _ _ len => some (.int .i64 (.ofNat len), .same)
    | _, _ => none)
/-- Is the kind the same? (Kinds by number.) -/
def kEq (a b : IntKind) : Bool := Nat.beq a.ctorIdx b.ctorIdx
def wrapB (k : IntKind) (n : Int) : Int := k.wrap n
def bArith (op : BinOp) (k : IntKind) (a b : Int) : Option AV :=
  match op with
  | .add => some (.int k (k.wrap (a + b)))
  | .sub => some (.int k (k.wrap (a - b)))
  | .mul => some (.int k (k.wrap (a * b)))
  | .quo => bif intEq b 0 then none else some (.int k (k.wrap (a.tdiv b)))
  | .rem => bif intEq b 0 then none else some (.int k (a.tmod b))
  | .and => some (.int k (Go.bits .and k a b))
  | .or => some (.int k (Go.bits .or k a b))
  | .andNot => some (.int k (Go.bits .andNot k a b))
  | .eql => some (.bool (intEq a b))
  | .neq => some (.bool (!(intEq a b)))
  | .lss => some (.bool (intLt a b))
  | .leq => some (.bool (!(intLt b a)))
  | .gtr => some (.bool (intLt b a))
  | .geq => some (.bool (!(intLt a b)))
  | _ => none
def strEq : List UInt8 → List UInt8 → Bool
  | [], [] => true
  | a :: l, b :: r => bif Nat.beq a.toNat b.toNat then strEq l r else false
  | _, _ => false
def bBin0 (op : BinOp) (x y : AV) : Option AV :=
  match x, y with
  | .int k a, .int k' b =>
    match op with
    | .shl => (match nat? b with | some n => some (.int k (k.wrap (a * 2 ^ (min n k.bits)))) | none => none)
    | .shr => (match nat? b with | some n => some (.int k (a.fdiv (2 ^ (min n k.bits)))) | none => none)
    | _ => bif kEq k k' then bArith op k a b else none
  | .str a, .str b =>
    match op with
    | .add => bif Nat.ble (a.length + b.length) maxLen then some (.str (a ++ b)) else none
    | .eql => some (.bool (strEq a b))
    | .neq => some (.bool (!(strEq a b)))
    | .lss => some (.bool (Op.bytesLess a b))
    | .leq => some (.bool (Op.bytesLess a b || strEq a b))
    | .gtr => some (.bool (!(Op.bytesLess a b || strEq a b)))
    | .geq => some (.bool (!(Op.bytesLess a b)))
    | _ => none
  | _, _ => none
def bEqs : List AV → List AV → Option Bool
  | [], [] => some true
  | .str a :: xs, .str b :: ys => (bEqs xs ys).map fun r => strEq a b && r
  | .int k a :: xs, .int k' b :: ys => bif kEq k k' then (bEqs xs ys).map fun r => intEq a b && r else none
  | .bool a :: xs, .bool b :: ys => (bEqs xs ys).map fun r => (a == b) && r
  | _, _ => none
def bEql (d : TD) (x y : AV) : Option Bool :=
  match d, x, y with
  | .bool, .bool a, .bool b => some (a == b)
  | .slice _, .nils, .nils => some true
  | .slice _, .lit (_ :: _), .nils => some false
  | .slice _, .nils, .lit (_ :: _) => some false
  | .ptr _, .nilp, .nilp => some true
  | .ptr _, .ptr .., .nilp => some false
  | .ptr _, .lptr .., .nilp => some false
  | .func, .nilf, .nilf => some true
  | .func, .func .., .nilf => some false
  | .iface, .iface .., .nili => some false
  | _, _, _ => none
def bBin1 (op : BinOp) (t : Nat) (x y : Operand) : RB :=
  match bBin0 op (opdB G s x) (opdB G s y) with
  | some v => some (v, .same)
  | none =>
    match op with
    | .eql | .neq =>
      match opdB G s x, opdB G s y with
      | .agg xs, .agg ys => match lkE T.E t, bEqs xs ys with
        | some ds, some b => bif kindsOk ds xs then some (.bool (eqB op b), .same) else none
        | _, _ => none
      | X, Y => match lkT T.T t with
        | some i => match bEql i.d X Y with
          | some b => some (.bool (eqB op b), .same)
          | none => none
        | none => none
    | _ => none
def bPtrEq (op : BinOp) (t : Nat) (x y : Operand) : RB :=
  match op with
  | .eql | .neq => match lkT T.T t with
    | some { d := .ptr e, .. } => match lkT T.T e, opdB G s x, opdB G s y with
      | some _, .ptr a b c d, .ptr a' b' c' d' => match R.get a with
        | some (.row _ sz elems) => bif Nat.beq a a' && (Nat.beq b b' && (Nat.beq c c' && (Nat.beq d d' && (lenB elems d && (Nat.blt b d && Nat.blt c sz))))) then some (.bool (eqB op true), .same) else none
        | _ => none
      | _, _, _ => none
    | _ => none
  | _ => none
def bNilEq (op : BinOp) (t : Nat) (x y : Operand) : RB :=
  match op with
  | .eql | .neq => match lkT T.T t, opdB G s x, opdB G s y with
    | some { d := .slice _, .. }, .slice id st, .nils => match R.get id with
      | some (.row _ _ elems) => bif lenB elems st && Nat.blt 0 st then some (.bool (eqB op false), .same) else none
      | _ => none
    | _, _, _ => none
  | _ => none
def bBin (op : BinOp) (t : Nat) (x y : Operand) : RB :=
  orB (bBin1 T G s op t x y) (orB (bPtrEq T G s R op t x y) (bNilEq T G s R op t x y))
def bUnsafe (t u : Nat) (x : Operand) : RB :=
  match lkT T.T t, lkT T.T u with
  | some { d := .ptr e, .. }, some { d := .uptr, .. } => match lkT T.T e, opdB G s x with
    | some j, .ptr id k off st => match R.get id with
      | some (.row _ sz elems) => bif Nat.blt 0 j.size && (lenB elems st && (Nat.blt k st && Nat.blt off sz)) then some (.ptr id k off st, .same) else none
      | _ => none
    | _, _ => none
  | some { d := .uptr, .. }, some { d := .ptr e, .. } => match lkT T.T e, opdB G s x with
    | some j, .ptr id 0 0 st => match R.get id with
      | some (.row e' sz elems) => bif Nat.beq e' e && (Nat.beq sz j.size && (Nat.blt 0 j.size && (lenB elems st && Nat.blt 0 st))) then some (.ptr id 0 0 st, .same) else none
      | _ => none
    | _, _ => none
  | _, _ => none
def bConv (t u : Nat) (x : Operand) : RB :=
  match lkT T.T t, lkT T.T u with
  | some i, some j =>
    match j.d, opdB G s x with
    | .int k', .int _ n => some (.int k' (k'.wrap n), .same)
    | .slice e, .str b => match lkT T.T e with
      | some k => (match i.d, k.d with | .str, .int .u8 => bif Nat.ble b.length maxLen then some (.lit (b.map fun c => [.int .u8 (.ofNat c.toNat)]), .same) else none | _, _ => none)
      | none => none
    | .str, .str b => some (.str b, .same)
    | .str, .int _ n => bif Nat.ble (Utf8.encode n).data.toList.length maxLen then some (.str (Utf8.encode n).data.toList, .same) else none
    | .str, X => match i.d with
      | .slice e => match lkT T.T e, elemsB R 1 X with
        | some k, some ys => match k.d, bytesOf ys with
          | .int .u8, some b => bif Nat.ble b.length maxLen then some (.str b, .same) else none
          | _, _ => none
        | _, _ => none
      | _ => none
    | _, _ => none
  | _, _ => none
def bAppend (t t2 : Nat) (x y : Operand) : RB :=
  match lkT T.T t with
  | some { d := .slice e, .. } => match lkT T.T e with
    | none => none
    | some j => bif Nat.beq t2 t && (Nat.blt 0 j.size && Nat.blt 0 j.bytes) then
      match elemsB R j.size (opdB G s y) with
      | none => none
      | some ys => bif allLen ys j.size then
        match opdB G s x with
        | .nils => bif Nat.ble (ys.length * j.bytes) 140737488355328 then some (.slice R.n ys.length, .push (.row e j.size ys)) else none
        | .slice id st => match R.get id with
          | some (.row e' sz elems) => bif Nat.beq e' e && (Nat.beq sz j.size && (lenB elems st && Nat.ble ((elems.length + ys.length) * j.bytes) 140737488355328)) then
              some (.slice id (elems.length + ys.length), .set id (.row e' sz (elems ++ ys))) else none
          | _ => none
        | _ => none
        else none
      else none
  | _ => none
def isByte (j : TI) : Bool :=
  Nat.beq j.size 1 && (Nat.beq j.bytes 1 && ((match j.zero with | [.int .u8] => true | _ => false) && (match j.d with | .int .u8 => true | _ => false)))
def bAppendStr (t u : Nat) (x y : Operand) : RB :=
  match lkT T.T t, lkT T.T u with
  | some { d := .slice e, .. }, some { d := .str, .. } => match lkT T.T e, opdB G s y with
    | some j, .str b => bif isByte j then
      match opdB G s x with
      | .nils => bif Nat.ble b.length 140737488355328 then some (.slice R.n (byteRows b).length, .push (.row e 1 (byteRows b))) else none
      | .slice id st => match R.get id with
        | some (.row e' sz elems) => bif Nat.beq e' e && (Nat.beq sz 1 && (lenB elems st && Nat.ble (elems.length + b.length) 140737488355328)) then
            some (.slice id (elems.length + (byteRows b).length), .set id (.row e 1 (elems ++ byteRows b))) else none
        | _ => none
      | _ => none
      else none
    | _, _ => none
  | _, _ => none
def bClear (t : Nat) (x : Operand) : RB :=
  match lkT T.T t with
  | some { d := .slice e, .. } => match lkT T.T e, opdB G s x with
    | some j, .sub id st lo len => match R.get id with
      | some (.row e' sz elems) => bif Nat.beq sz j.size && (lenB elems st && (Nat.blt 0 len && Nat.ble (lo + len) st)) then some (.tuple [], .set id (.row e' sz (clearEl (j.zero.map ZV.av) lo len elems))) else none
      | _ => none
    | some j, .slice id st => match R.get id with
      | some (.row e' sz elems) => bif Nat.beq sz j.size && (lenB elems st && Nat.blt 0 st) then some (.tuple [], .set id (.row e' sz (clearEl (j.zero.map ZV.av) 0 st elems))) else none
      | _ => none
    | _, _ => none
  | _ => none
def bSliceData (x : Operand) : RB :=
  match opdB G s x with
  | .nils => some (.nilp, .same)
  | .slice id st => match R.get id with
    | some (.row _ _ elems) => bif lenB elems st && Nat.blt 0 st then some (.ptr id 0 0 st, .same) else none
    | _ => none
  | _ => none
def bUnsafeString (pt : Nat) (x y : Operand) : RB :=
  match opdB G s x, opdB G s y with
  | .nilp, .int .i64 (.ofNat 0) => some (.str [], .same)
  | .ptr id 0 0 st, .int .i64 (.ofNat m) => match lkT T.T pt, R.get id with
    | some { d := .ptr e, .. }, some (.row e' sz elems) => match lkT T.T e, bytesE elems with
      | some j, some b => bif Nat.beq j.size 1 && (Nat.beq e' e && (Nat.beq sz 1 && (lenB elems st && (Nat.beq m st && (Nat.blt 0 st && Nat.ble b.length maxLen))))) then some (.str b, .set id .dead) else none
      | _, _ => none
    | _, _ => none
  | _, _ => none
def bBuild (t : Nat) (parts : Array (Nat × Operand)) : RB :=
  match lkT T.T t with
  | some i => match i.d with
    | .struct fs => match fillA (fun n => (fs[n]?).map fun x => (x.1, x.2.2)) (i.zero.map ZV.av) (parts.toList.map fun p => (p.1, opdB G s p.2)) with
      | some r => some (.agg r, .same)
      | none => none
    | .array _ e => match lkT T.T e with
      | some j => match fillA (fun k => some (k * j.size, j.size)) (i.zero.map ZV.av) (parts.toList.map fun p => (p.1, opdB G s p.2)) with
        | some r => some (.agg r, .same)
        | none => none
      | none => none
    | _ => none
  | none => none
def bBuildSlice (t n : Nat) (parts : Array (Nat × Operand)) : RB :=
  match lkT T.T t with
  | some { d := .slice e, .. } => match lkT T.T e with
    | some j => match fillA (fun k => some (k * j.size, j.size)) ((List.replicate n (j.zero.map ZV.av)).flatten) (parts.toList.map fun p => (p.1, opdB G s p.2)) with
      | some r => bif Nat.ble (n * j.size) 16777216 && Nat.ble n maxLen then some (.slice R.n n, .push (.row e j.size (cut n j.size r))) else none
      | none => none
    | none => none
  | _ => none
def bCheck (x : Operand) : RB :=
  match opdB G s x with
  | .ptr a b c d => some (.ptr a b c d, .same)
  | .lptr a b c => some (.lptr a b c, .same)
  | .obj a => some (.obj a, .same)
  | .func (.func f) a b => some (.func (.func f) a b, .same)
  | _ => none
def bMinMax (mx : Bool) (x y : Operand) : RB :=
  match opdB G s x, opdB G s y with
  | .int k a, .int k' b => bif kEq k k' then some (.int k (bif mx then (bif intLt a b then b else a) else (bif intLt b a then b else a)), .same) else none
  | _, _ => none
def bBuiltin (b : Builtin) (args : List Operand) (ts : List TypeId) : RB :=
  match b, args, ts with
  | .len, [x], [t] => bLen T G s t x
  | .append, [x, y], [t, t2] => orB (bAppend T G s R t t2 x y) (bAppendStr T G s R t t2 x y)
  | .clear, [x], [t] => bClear T G s R t x
  | .unsafeSliceData, [x], _ => bSliceData G s R x
  | .unsafeString, [x, y], [pt, _] => bUnsafeString T G s R pt x y
  | .max, [x, y], [_, _] => bMinMax G s true x y
  | .min, [x, y], [_, _] => bMinMax G s false x y
  | _, _, _ => none

/-- The first rune of bytes, and its width. -/
def contL (l : List UInt8) (k : Nat) : Bool := match nth l k with | some b => Nat.beq (b.toNat / 64) 2 | none => false
def atL (l : List UInt8) (k : Nat) : Nat := match nth l k with | some b => b.toNat | none => 0
def decodeL (l : List UInt8) : Nat × Nat :=
  bif Nat.blt (atL l 0) 128 then (atL l 0, 1) else
  bif Nat.beq (atL l 0 / 32) 6 && contL l 1 then
    (bif Nat.ble 128 ((atL l 0 % 32) * 64 + atL l 1 % 64) then ((atL l 0 % 32) * 64 + atL l 1 % 64, 2) else (Utf8.runeError, 1)) else
  bif Nat.beq (atL l 0 / 16) 14 && (contL l 1 && contL l 2) then
    (bif Nat.ble 2048 ((atL l 0 % 16) * 4096 + (atL l 1 % 64) * 64 + atL l 2 % 64) && Utf8.valid (Int.ofNat ((atL l 0 % 16) * 4096 + (atL l 1 % 64) * 64 + atL l 2 % 64)) then ((atL l 0 % 16) * 4096 + (atL l 1 % 64) * 64 + atL l 2 % 64, 3) else (Utf8.runeError, 1)) else
  bif Nat.beq (atL l 0 / 8) 30 && (contL l 1 && (contL l 2 && contL l 3)) then
    (bif Nat.ble 65536 ((atL l 0 % 8) * 262144 + (atL l 1 % 64) * 4096 + (atL l 2 % 64) * 64 + atL l 3 % 64) && Utf8.valid (Int.ofNat ((atL l 0 % 8) * 262144 + (atL l 1 % 64) * 4096 + (atL l 2 % 64) * 64 + atL l 3 % 64)) then ((atL l 0 % 8) * 262144 + (atL l 1 % 64) * 4096 + (atL l 2 % 64) * 64 + atL l 3 % 64, 4) else (Utf8.runeError, 1)) else
  (Utf8.runeError, 1)
def bRange (t : Nat) (x : Operand) : RB :=
  match lkT T.T t with
  | some { d := .str, .. } => match opdB G s x with
    | .str b => some (.obj R.n, .push (.iterS b 0))
    | _ => none
  | some { d := .map _ _, .. } => match opdB G s x with
    | .obj id => match R.get id with
      | some (.map _ clock) => some (.obj R.n, .push (.iterM id clock 0 none clock))
      | _ => none
    | _ => none
  | _ => none
def freshB (k : List UInt8) : List (AV × AV × Nat) → Bool
  | [] => true
  | x :: l => match x.1 with
    | .str k' => !strEq k' k && freshB k l
    | _ => false
def bornsB : Nat → List (AV × AV × Nat) → Bool
  | _, [] => true
  | n, x :: l => Nat.beq x.2.2 n && bornsB (n + 1) l
def bInsert (t : Nat) (m x y : Operand) : RB :=
  match lkT T.T t with
  | some { d := .map kt _, .. } => match lkT T.T kt with
    | some { d := .str, .. } => match opdB G s m, opdB G s x with
      | .obj id, .str k => match R.get id with
        | some (.map entries clock) => bif freshB k entries then some (.tuple [], .set id (.map (entries ++ [(.str k, opdB G s y, clock)]) (clock + 1))) else none
        | _ => none
      | _, _ => none
    | _ => none
  | _ => none
def bEntry (x : Operand) : RB :=
  match opdB G s x with
  | .obj id => match R.get id with
    | some (.iterM mid since n (some b) last) => match R.get mid with
      | some (.map entries clock) => bif Nat.beq since clock && (Nat.beq last clock && (bornsB 0 entries && lenB entries clock)) then (match nth entries b with
        | some e => some (.tuple [e.1, e.2.1], .same)
        | none => none) else none
      | _ => none
    | _ => none
  | _ => none
def bNext (x : Operand) : RB :=
  match opdB G s x with
  | .obj id => match R.get id with
    | some (.iterS b pos) => bif Nat.blt pos b.length then
        some (.tuple [.bool true, .int .i64 (.ofNat pos), .int .i32 (.ofNat (decodeL (b.drop pos)).1)], .set id (.iterS b (pos + (decodeL (b.drop pos)).2)))
      else some (.tuple [.bool false], .same)
    | _ => none
  | _ => none

/-- One operation: what it gives, what it does to the heap. -/
def opB (o : Op) : RB :=
  match o with
  | .move x | .assign x => some (opdB G s x, .same)
  | .pick c x y => match opdB G s c with
    | .bool b => some (apick b (opdB G s x) (opdB G s y), .same)
    | _ => none
  | .alloc t => match lkT T.T t with
    | some i => some (.ptr R.n 0 0 1, .push (.row t i.size [i.zero.map ZV.av]))
    | none => none
  | .box t x => bif (opdB G s x).cells then some (.ptr R.n 0 0 1, .push (.row t (cellsOf (opdB G s x)).length [cellsOf (opdB G s x)])) else none
  | .load t x => bLoad T G s R t x
  | .store t x y => bStore T G s R t x y
  | .fieldAddr t x n => bFieldAddr T G s t x n
  | .field t x n => bField T G s t x n
  | .indexAddr t x ix => orB (bIndexAddr T G s R t x ix) (bIndexSub T G s R t x ix)
  | .index t x ix => bIndex T G s t x ix
  | .slice t x lo hi none => orB (bSlice T G s t x lo hi) (bSliceOwn T G s R t x lo hi)
  | .extract x n => match opdB G s x with
    | .tuple vs => bif Nat.blt n vs.length then some (vs.getD n .any, .same) else none
    | _ => none
  | .nilCheck x => bCheck G s x
  | .makeInterface t x => match lkT T.T t with
    | some i => (match i.d with | .iface => none | _ => some (.iface t (opdB G s x), .same))
    | none => none
  | .makeFunc fn first cap => some (.func fn (first.toList.map (opdB G s)) (cap.toList.map (opdB G s)), .same)
  | .unOp .not _ x => match opdB G s x with
    | .bool b => some (.bool !b, .same)
    | _ => none
  | .unOp .neg _ x => match opdB G s x with
    | .int k n => some (.int k (k.wrap (0 - n)), .same)
    | _ => none
  | .binOp op t x y _ => bBin T G s R op t x y
  | .convert t u x => orB (bConv T G s R t u x) (bUnsafe T G s R t u x)
  | .build t parts => bBuild T G s t parts
  | .buildSlice t n parts => bBuildSlice T G s R t n parts
  | .range t x => bRange T G s R t x
  | .makeMap _ none => some (.obj R.n, .push (.map [] 0))
  | .next x true => bNext G s R x
  | .insert t m x y => bInsert T G s R t m x y
  | .entry x => bEntry G s R x
  | .call c => match c.callee with
    | .builtin b => bBuiltin T G s R b c.args.toList c.argTypes.toList
    | _ => none
  | _ => none
end
end Go.Proofs.Ax
/- AX, part E2: the evaluator: regions, code, calls. -/
set_option linter.unusedVariables false
set_option linter.unusedSimpArgs false
namespace Go.Proofs.Ax
open Go.RowKit

structure Env where
  T : Tab
  G : Glob
  F : Nat → Option Func
  X : Nat → Option (List AV → RH → Option (AEnd × RH))
  K : Nat → Nat → Option (List Nat)
  Z : Nat → Bool
  N : Nat → Bool

abbrev Ans := Option (AExit × Fs × RH)
abbrev CallE := Nat → List AV → RH → Option (AEnd × RH)

/-- Is an operation carried out? -/
def wantB (nt : Nat) (ops : List Oper) (s : Fs) (o : Oper) : Option Bool :=
  match o.guard with
  | none => some true
  | some (j, want) => match nth ops j with
    | some q => match q.dst with
      | some t => bif Nat.blt t nt then (match fget s t with
        | .bool c => some (bif want then c else !c)
        | .tuple [] => some false
        | _ => none) else none
      | none => none
    | none => none
def fput (s : Fs) (dst : Option Nat) (v : AV) : Fs :=
  match dst with
  | some d => (d, v) :: s
  | none => s
def dstOkB (o : Oper) (n : Nat) : Bool := match o.dst with | some d => Nat.blt d n | none => true

/-- Operations in their order. -/
def evOps (E : Env) (call : CallE) (nt : Nat) (ops : List Oper) : List Oper → Fs → RH → Option (Option AV × Fs × RH)
  | [], s, R => some (none, s, R)
  | o :: rest, s, R =>
    bif dstOkB o nt then
    match wantB nt ops s o with
    | none => none
    | some false => evOps E call nt ops rest (fput s o.dst (.tuple [])) R
    | some true =>
      match o.op with
      | .call c => match c.callee with
        | .value f => match opdB E.G s f with
          | .func (.func g) first cap => bif E.N g then
            (match first, cap, c.args.toList with
            | [], [], [y] => evOps E call nt ops rest (fput s o.dst (opdB E.G s y)) R
            | _, _, _ => none) else
            match call g (first ++ (c.args.toList.map (opdB E.G s) ++ cap)) R with
            | some (.ret v, R') => evOps E call nt ops rest (fput s o.dst v) R'
            | some (.panic v, R') => some (some v, s, R')
            | none => none
          | _ => none
        | .invoke .. => none
        | .builtin b => match bBuiltin E.T E.G s R b c.args.toList c.argTypes.toList with
          | some (v, hc) => evOps E call nt ops rest (fput s o.dst v) (R.app hc)
          | none => none
      | .panic x => match opdB E.G s x with
        | .iface t v => some (some (.iface t v), s, R)
        | _ => none
      | op => match opB E.T E.G s R op with
        | some (v, hc) => evOps E call nt ops rest (fput s o.dst v) (R.app hc)
        | none => none
    else none

/-- Quiet operations, of a region whose order is open: the heap stays; a new row is one that nobody writes to. -/
def evQuiet (E : Env) (call : CallE) (nt : Nat) (ops : List Oper) : List Oper → Fs → RH → Option Fs
  | [], s, R => some s
  | o :: rest, s, R =>
    bif dstOkB o nt then
    match wantB nt ops s o with
    | none => none
    | some false => evQuiet E call nt ops rest (fput s o.dst (.tuple [])) R
    | some true =>
      match o.op with
      | .call c => match c.callee with
        | .value f => match opdB E.G s f with
          | .func (.func g) first cap => match call g (first ++ (c.args.toList.map (opdB E.G s) ++ cap)) { R with b0 := R.n, ws := [] } with
            | some (.ret v, R') => match R'.ws with
              | [] => bif Nat.beq R'.n R.n then evQuiet E call nt ops rest (fput s o.dst v) R else none
              | _ => none
            | _ => none
          | _ => none
        | .invoke .. => none
        | .builtin b => match bBuiltin E.T E.G s R b c.args.toList c.argTypes.toList with
          | some (v, .same) => evQuiet E call nt ops rest (fput s o.dst v) R
          | some (.slice i k, .push (.row _ _ ys)) => bif Nat.beq i R.n && lenB ys k then evQuiet E call nt ops rest (fput s o.dst (frzV ys)) R else none
          | _ => none
      | .panic _ => none
      | op => match opB E.T E.G s R op with
        | some (v, .same) => evQuiet E call nt ops rest (fput s o.dst v) R
        | some (.slice i k, .push (.row _ _ ys)) => bif Nat.beq i R.n && lenB ys k then evQuiet E call nt ops rest (fput s o.dst (frzV ys)) R else none
        | _ => none
    else none

/-- May an operation be quiet? -/
def quietKind2 : Op → Bool
  | .store .. => false
  | .next .. => false
  | .panic _ => false
  | _ => true
def leastSerial (ops : List Oper) : Nat → Nat → Option Nat
  | 0, _ => none
  | k + 1, m => bif serial ops m && (((ops.take m).all fun o => quietKind2 o.op) && drawOk ops.toArray m) then some m else leastSerial ops k (m + 1)
def drawM (ops : List Oper) : Option Nat := leastSerial ops (ops.length + 1) 0

/-! ### Values that are the same -/
mutual
def AV.eqv : AV → AV → Bool
  | .any, .any => true
  | .bool a, .bool b => (bif a then b else !b)
  | .int k a, .int k' b => kEq k k' && intEq a b
  | .str a, .str b => strEq a b
  | .nilp, .nilp => true
  | .ptr a b c d, .ptr a' b' c' d' => Nat.beq a a' && (Nat.beq b b' && (Nat.beq c c' && Nat.beq d d'))
  | .lptr e a b, .lptr e' a' b' => Nat.beq a a' && (Nat.beq b b' && AV.eqvss e e')
  | .nils, .nils => true
  | .slice a b, .slice a' b' => Nat.beq a a' && Nat.beq b b'
  | .lit e, .lit e' => AV.eqvss e e'
  | .nilf, .nilf => true
  | .obj a, .obj b => Nat.beq a b
  | .nilm, .nilm => true
  | .iface t v, .iface t' v' => Nat.beq t t' && AV.eqv v v'
  | .nili, .nili => true
  | .agg a, .agg b => AV.eqvs a b
  | .tuple a, .tuple b => AV.eqvs a b
  | .sub a b c d, .sub a' b' c' d' => Nat.beq a a' && (Nat.beq b b' && (Nat.beq c c' && Nat.beq d d'))
  | .clit e, .clit e' => AV.eqvss e e'
  | .yield a, .yield b => Nat.beq a b
  | .func (.func f) a b, .func (.func f') a' b' => Nat.beq f f' && (AV.eqvs a a' && AV.eqvs b b')
  | _, _ => false
def AV.eqvs : List AV → List AV → Bool
  | [], [] => true
  | a :: l, b :: r => AV.eqv a b && AV.eqvs l r
  | _, _ => false
def AV.eqvss : List (List AV) → List (List AV) → Bool
  | [], [] => true
  | a :: l, b :: r => AV.eqvs a b && AV.eqvss l r
  | _, _ => false
end
def mapEqv : List (AV × AV × Nat) → List (AV × AV × Nat) → Bool
  | [], [] => true
  | a :: l, b :: r => AV.eqv a.1 b.1 && (AV.eqv a.2.1 b.2.1 && (Nat.beq a.2.2 b.2.2 && mapEqv l r))
  | _, _ => false
def AB.eqv : AB → AB → Bool
  | .dead, .dead => true
  | .row e sz l, .row e' sz' l' => Nat.beq e e' && (Nat.beq sz sz' && AV.eqvss l l')
  | .map es c, .map es' c' => mapEqv es es' && Nat.beq c c'
  | .iterS b p, .iterS b' p' => strEq b b' && Nat.beq p p'
  | .iterM a b c none e, .iterM a' b' c' none e' => Nat.beq a a' && (Nat.beq b b' && (Nat.beq c c' && Nat.beq e e'))
  | _, _ => false
def heapEqv : List AB → List AB → Bool
  | [], [] => true
  | a :: l, b :: r => AB.eqv a b && heapEqv l r
  | _, _ => false
def natsEq : List Nat → List Nat → Bool
  | [], [] => true
  | a :: l, b :: r => Nat.beq a b && natsEq l r
  | _, _ => false
def fsEqv : Fs → Fs → Bool
  | [], [] => true
  | p :: l, q :: r => Nat.beq p.1 q.1 && (AV.eqv p.2 q.2 && fsEqv l r)
  | _, _ => false

/-! ### Several orders -/
def quietKind : Op → Bool
  | .move _ | .assign _ | .pick .. | .build .. | .load .. | .nilCheck _ | .binOp .. | .unOp .. | .convert .. | .makeInterface .. | .makeFunc .. | .slice .. | .fieldAddr .. | .field .. | .indexAddr .. | .index .. | .extract .. => true
  | .call c => match c.callee with
    | .builtin .len => true
    | _ => false
  | _ => false
def quietPre : List Oper → Nat
  | [] => 0
  | o :: l => bif quietKind o.op then quietPre l + 1 else 0
def mostDraw (ops : List Oper) : Nat → Option Nat
  | 0 => bif drawOk ops.toArray 0 then some 0 else none
  | m + 1 => bif drawOk ops.toArray (m + 1) then some (m + 1) else mostDraw ops m
def outS (ops : List Oper) (s : Fs) : Fs := ops.filterMap fun o => o.dst.map fun d => (d, fget s d)
def readyB (ops : List Oper) (l : List Bool) : List Nat :=
  (List.range ops.length).filter fun i => !(l.getD i false) && (match nth ops i with | some o => (preds o).all fun k => l.getD k false | none => false)
/-- Each order: one end. -/
def evAny (E : Env) (nt : Nat) (ops : List Oper) : Nat → List Bool → Fs → RH → Option (Fs × RH) :=
  Nat.rec (fun l s R => match readyB ops l with
      | [] => some (outS ops s, R)
      | _ => none)
    fun _ ih l s R => match readyB ops l with
      | [] => some (outS ops s, R)
      | i :: is =>
        let go := fun i => match nth ops i with
          | some o => match o.guard with
            | none => bif dstOkB o nt then (match opB E.T E.G s R o.op with
              | some (v, hc) => ih (setAt l i true) (fput s o.dst v) (R.app hc)
              | none => none) else none
            | some _ => none
          | none => none
        match go i with
        | some (s1, R1) => bif is.all (fun j => match go j with | some (s2, R2) => fsEqv s1 s2 && (heapEqv R1.l R2.l && (Nat.beq R1.n R2.n && natsEq R1.ws R2.ws)) | none => false) then some (s1, R1) else none
        | none => none

def evRegion (E : Env) (call : CallE) (nt : Nat) (ops : List Oper) (draw : Bool) (s : Fs) (R : RH) : Ans :=
  let r := match draw with
    | false => evOps E call nt ops ops s R
    | true => match drawM ops with
      | some m => match evQuiet E call nt ops (ops.take m) s R with
        | some s' => evOps E call nt ops (ops.drop m) s' R
        | none => none
      | none => match mostDraw ops (quietPre ops) with
        | some m => match evQuiet E call nt ops (ops.take m) s R with
          | some s' => match evAny E nt ops (ops.length - m) ((List.range ops.length).map fun i => Nat.blt i m) s' R with
            | some (s2, R2) => some (none, s2 ++ s, R2)
            | none => none
          | none => none
        | none => none
  match r with
  | some (none, s', R') => some (.normal, s', R')
  | some (some v, s', R') => some (.panic v, s', R')
  | none => none

/-! ### What may be forgotten -/
mutual
def AV.refs : AV → List Nat
  | .ptr id _ _ _ => [id]
  | .slice id _ => [id]
  | .obj id => [id]
  | .func _ a b => AV.refss a ++ AV.refss b
  | .iface _ v => AV.refs v
  | .agg cs => AV.refss cs
  | .tuple cs => AV.refss cs
  | .sub id _ _ _ => [id]
  | .yield id => [id]
  | _ => []
def AV.refss : List AV → List Nat
  | [] => []
  | x :: l => AV.refs x ++ AV.refss l
end
def refsL : List (List AV) → List Nat
  | [] => []
  | x :: l => AV.refss x ++ refsL l
def AB.refs : AB → List Nat
  | .row _ _ elems => refsL elems
  | .map es _ => es.flatMap fun x => AV.refs x.1 ++ AV.refs x.2.1
  | .iterM mid _ _ _ _ => [mid]
  | .loopR s _ _ _ _ _ _ => s.flatMap fun p => AV.refs p.2
  | _ => []
def markR (R : RH) (n0 : Nat) : Nat → List Nat → List Nat → List Nat
  | 0, _, seen => seen
  | k + 1, todo, seen => match todo with
    | [] => seen
    | i :: r => bif Nat.blt i n0 || memN i seen then markR R n0 k r seen else
      markR R n0 k ((match R.get i with | some b => b.refs | none => []) ++ r) (i :: seen)
def oldRefs (R : RH) : List Nat → List Nat
  | [] => []
  | i :: l => (match R.get i with | some b => b.refs | none => []) ++ oldRefs R l
def dropN {α : Type} : Nat → List α → List α
  | 0, l => l
  | n + 1, l => match l with | [] => [] | _ :: r => dropN n r
/-- Those below n0, and the kept ones xs (no number twice, all from n0 on). -/
def RH.keepR (R : RH) (n0 : Nat) (xs : List Nat) : RH :=
  let σ := keepS n0 xs
  let old := dropN (Nat.sub R.n n0) R.l
  let old' := R.ws.foldl (fun l i => match R.get i with | some b => setAt l (Nat.sub (Nat.sub n0 1) i) (b.ren σ) | none => l) old
  { R with l := (xs.map fun i => match R.get i with | some b => b.ren σ | none => .dead).reverse ++ old', n := n0 + xs.length }
def okKeep (R : RH) (n0 : Nat) : List Nat → Bool
  | [] => true
  | i :: l => Nat.ble n0 i && (Nat.blt i R.n && (!memN i l && okKeep R n0 l))

/-- A value of which nobody writes to anything: the rows from n0 on that it leads to are told as what they hold; of at most so much depth. -/
def frzD (R : RH) (n0 : Nat) : Nat → AV → AV :=
  Nat.rec (fun _ => .any) fun _ ih v => match v with
  | .iface t v => .iface t (ih v)
  | .agg cs => .agg (cs.map ih)
  | .tuple cs => .tuple (cs.map ih)
  | .func f a b => .func f (a.map ih) (b.map ih)
  | .slice id st => bif Nat.ble n0 id then (match R.get id with
    | some (.row _ _ elems) => bif lenB elems st then .lit (elems.map fun l => l.map ih) else .any
    | _ => .any) else .any
  | .sub id st lo len => bif Nat.ble n0 id then (match R.get id with
    | some (.row _ _ elems) => bif lenB elems st then .lit (((elems.take (lo + len)).drop lo).map fun l => l.map ih) else .any
    | _ => .any) else .any
  | .ptr .. => .any
  | .obj _ => .any
  | .yield _ => .any
  | v => v
mutual
/-- No block from n0 on. -/
def AV.low (n0 : Nat) : AV → Bool
  | .ptr id _ _ _ => Nat.blt id n0
  | .slice id _ => Nat.blt id n0
  | .obj id => Nat.blt id n0
  | .func _ a b => AV.lows n0 a && AV.lows n0 b
  | .iface _ v => AV.low n0 v
  | .agg cs => AV.lows n0 cs
  | .tuple cs => AV.lows n0 cs
  | .sub id _ _ _ => Nat.blt id n0
  | .yield id => Nat.blt id n0
  | _ => true
def AV.lows (n0 : Nat) : List AV → Bool
  | [] => true
  | x :: l => AV.low n0 x && AV.lows n0 l
end
def lowL (n0 : Nat) : List (List AV) → Bool
  | [] => true
  | x :: l => AV.lows n0 x && lowL n0 l
def AB.low (n0 : Nat) : AB → Bool
  | .row _ _ elems => lowL n0 elems
  | .map es _ => es.all fun x => AV.low n0 x.1 && AV.low n0 x.2.1
  | .iterM mid _ _ _ _ => Nat.blt mid n0
  | .loopR s _ _ _ _ _ _ => s.all fun p => AV.low n0 p.2
  | _ => true
def oldLow (R : RH) : List Nat → Bool
  | [] => true
  | i :: l => (match R.get i with | some b => b.low R.b0 | none => true) && oldLow R l
/-- Which blocks that the caller knew of at his beginning have been written to. -/
def wsOut (R0 R : RH) : List Nat := R.ws.foldr (fun i l => bif Nat.blt i R0.b0 then (bif memN i l then l else i :: l) else l) R0.ws
def RH.trim (R : RH) : RH := { R with l := dropN (Nat.sub R.n R.b0) R.l, n := R.b0 }
/-- The end of a call: what came of it, what is left. -/
def leaveB (z : Bool) (R : RH) (v : AV) : Option (AV × RH) :=
  bif Nat.beq R.n R.b0 then some (v, R) else
  bif oldLow R R.ws && AV.low R.b0 v then some (v, R.trim) else
  bif z && oldLow R R.ws then some (frzD R R.b0 1000 v, R.trim) else
  let xs := markR R R.b0 100000 (v.refs ++ oldRefs R R.ws) []
  bif okKeep R R.b0 xs then some (v.ren (keepS R.b0 xs), R.keepR R.b0 xs) else none
def backB (R0 R : RH) : RH := { R with b0 := R0.b0, ws := wsOut R0 R }
def slotRefs : Fs → List Nat
  | [] => []
  | p :: s => p.2.refs ++ slotRefs s
/-- A round's end: the slots that are needed yet; what they lead to. -/
def roundB (ks : Option (List Nat)) (s : Fs) (R : RH) : Option (Fs × RH) :=
  match ks with
  | none => some (s, R)
  | some ks =>
    let s1 := ks.map fun t => (t, fget s t)
    bif Nat.beq R.n R.b0 then some (s1, R) else
    let xs := markR R R.b0 100000 (slotRefs s1 ++ oldRefs R R.ws) []
    bif okKeep R R.b0 xs then some (s1.map fun p => (p.1, p.2.ren (keepS R.b0 xs)), R.keepR R.b0 xs) else none

def resB (E : Env) (s : Fs) (R : RH) : List ResultVar → Option (List AV)
  | [] => some []
  | .tmp t :: l => match resB E s R l with
    | some vs => some (fget s t :: vs)
    | none => none
  | .cell a t :: l => match bLoad E.T E.G s R t (.tmp a), resB E s R l with
    | some (v, _), some vs => some (v :: vs)
    | _, _ => none

def callB (E : Env) (rec : Nat → Nat → Code → Fs → RH → Ans) (g : Nat) (args : List AV) (R : RH) : Option (AEnd × RH) :=
  match E.X g with
  | some f => f args R
  | none => match E.F g with
    | none => none
    | some fn => match fn.body with
      | none => none
      | some c => match rec g (args.length + (fn.ntmps - args.length)) c (enterS 0 args) { R with b0 := R.n, ws := [] } with
        | some (.panic v, s, R') => match leaveB false R' v with
          | some (v', R2) => some (.panic v', backB R R2)
          | none => none
        | some (.exit _, _, _) => none
        | some (.goto _, _, _) => none
        | some (_, s, R') => match resB E s R' fn.results.toList with
          | some vs => match leaveB (E.Z g) R' (packR vs) with
            | some (v', R2) => some (.ret v', backB R R2)
            | none => none
          | none => none
        | none => none

/-- A loop's round that begins with the step of a map's iterator. -/
def headNext : Code → Option (Operand × Nat × Array Oper × Code)
  | .seq (.region _ ops false) rest => match ops.toList with
    | o :: _ => match o.op, o.guard, o.dst with
      | .next x false, none, some d => some (x, d, ops, rest)
      | _, _, _ => none
    | [] => none
  | _ => none
def afterB (rec : Nat → Nat → Code → Fs → RH → Ans) (g nt i : Nat) (c : Code) (r : Ans) : Ans :=
  match r with
  | some (.normal, s', R') => rec g nt (.block i (.loop c)) s' R'
  | some (.exit j, s', R') => bif Nat.beq j i then some (.normal, s', R') else some (.exit j, s', R')
  | r => r
def mapStep (E : Env) (rec : Nat → Nat → Code → Fs → RH → Ans) (g nt : Nat) (h : Operand × Nat × Array Oper × Code) (s : Fs) (v : AV) (R : RH) : Ans :=
  match h.2.2.1.toList with
  | [] => none
  | _ :: ops => match evOps E (callB E rec) nt h.2.2.1.toList ops ((h.2.1, v) :: s) R with
    | some (none, s', R') => rec g nt h.2.2.2 s' R'
    | _ => none
def blurB (E : Env) (x : Operand) (s : Fs) (R : RH) : Option (Fs × RH) :=
  match opdB E.G s x with
  | .obj id => match R.get id with
    | some (.iterM mid since n _ last) => some (s, R.app (.set id (.iterM mid since n none last)))
    | _ => none
  | _ => none
def sameB (a b : Fs × RH) : Bool := fsEqv a.1 b.1 && (heapEqv a.2.l b.2.l && (Nat.beq a.2.n b.2.n && (Nat.beq a.2.b0 b.2.b0 && natsEq a.2.ws b.2.ws)))
def oneEnd (E : Env) (rec : Nat → Nat → Code → Fs → RH → Ans) (g nt i : Nat) (h : Operand × Nat × Array Oper × Code) (id mid clock n : Nat) (s : Fs) (R : RH) (e : AV × AV × Nat) : Option (Fs × RH) :=
  match mapStep E rec g nt h s (.tuple [.bool true, e.1, e.2.1]) (R.app (.set id (.iterM mid clock (n + 1) (some e.2.2) clock))) with
  | some (.normal, s2, R2) => match roundB (E.K g i) s2 R2 with
    | some (s3, R3) => blurB E h.1 s3 R3
    | none => none
  | _ => none
def allEnds (f : AV × AV × Nat → Option (Fs × RH)) : List (AV × AV × Nat) → Option (Fs × RH)
  | [] => none
  | e :: l => match f e with
    | some a => bif l.all (fun e' => match f e' with | some b => sameB b a | none => false) then some a else none
    | none => none
def mapB (E : Env) (rec : Nat → Nat → Code → Fs → RH → Ans) (g nt i : Nat) (c : Code) (h : Operand × Nat × Array Oper × Code) (s : Fs) (R : RH) : Ans :=
  match opdB E.G s h.1 with
  | .obj id => match R.get id with
    | some (.iterM mid since n cur last) => match R.get mid with
      | some (.map entries clock) => bif Nat.beq since clock && (Nat.beq last clock && (bornsB 0 entries && (lenB entries clock && Nat.blt h.2.1 nt))) then
          (bif lenB entries n then afterB rec g nt i c (mapStep E rec g nt h s (.tuple [.bool false]) R) else
            match allEnds (oneEnd E rec g nt i h id mid clock n s R) entries with
            | some (s3, R3) => rec g nt (.block i (.loop c)) s3 R3
            | none => none) else none
      | _ => none
    | _ => none
  | _ => none

def codeB (E : Env) (rec : Nat → Nat → Code → Fs → RH → Ans) (g nt : Nat) : Code → Fs → RH → Ans
  | .skip, s, R => some (.normal, s, R)
  | .label _, s, R => some (.normal, s, R)
  | .exit i, s, R => some (.exit i, s, R)
  | .goto i, s, R => some (.goto i, s, R)
  | .ret, s, R => some (.ret, s, R)
  | .seq x y, s, R => match rec g nt x s R with
    | some (.normal, s', R') => rec g nt y s' R'
    | r => r
  | .cond c x y, s, R => match opdB E.G s c with
    | .bool b => bif b then rec g nt x s R else rec g nt y s R
    | _ => none
  | .block i (.loop c), s, R => match roundB (E.K g i) s R with
    | some (s1, R1) => match headNext c with
      | none => afterB rec g nt i c (rec g nt c s1 R1)
      | some h => mapB E rec g nt i c h s1 R1
    | none => none
  | .block i c, s, R => match rec g nt c s R with
    | some (.exit j, s', R') => bif Nat.beq j i then some (.normal, s', R') else some (.exit j, s', R')
    | r => r
  | .region _ ops draw, s, R => evRegion E (callB E rec) nt ops.toList draw s R
  | _, _, _ => none

/-- Code, in a function's frame; the first number bounds the depth. -/
def evC (E : Env) (n : Nat) : Nat → Nat → Code → Fs → RH → Ans :=
  Nat.rec (fun _ _ _ _ _ => none) (fun _ ih => codeB E ih) n
def evF (E : Env) (n : Nat) : CallE := callB E (evC E n)
end Go.Proofs.Ax

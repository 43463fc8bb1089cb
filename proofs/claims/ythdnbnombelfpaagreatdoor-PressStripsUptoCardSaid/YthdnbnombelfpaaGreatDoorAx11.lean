import Derived.Test.YthdnbnombelfpaaGreatDoorAx8
import Derived.OrdersIn
import Derived.TacticsIn
import Derived.RangeFuncCalls
import Derived.RangeFuncRecord
/- AX, part Rg: code within a round of a range over a function. -/
set_option linter.unusedVariables false
set_option linter.unusedSimpArgs false
namespace Go.Proofs.Ax
open Go.RowKit

/-- The fence that lets everything in; within a round of record l. -/
def FI : Option Nat → Fence
  | none => Fence.wide
  | some l => Fence.wide.inRound l
theorem FI_fn (r : Option Nat) (f : FuncId) : (FI r).fn f := by cases r <;> trivial
theorem FI_round (r : Option Nat) : (FI r).round = r := by cases r <;> rfl
theorem FI_depth (r : Option Nat) : (FI r).depth = none := by cases r <;> rfl
theorem callsI {P : Program} {r : Option Nat} {n : Nat} {f : FuncId} {args : Array Value} {w : World} {R : Ending → World → Prop} (h : Calls P f args w R) : CallsIn (FI r) n P f args w R := by
  have h1 : CallsIn Fence.wide n P f args w R := callsIn_wide.2 h
  cases r with
  | none => exact h1
  | some l => exact CallsIn.inRound l h1
theorem rowsI {P : Program} {r : Option Nat} {n : Nat} {row : String} {args : Array Value} {w : World} {R : Value → World → Prop} (h : Rows P row args w R) : RowsIn (FI r) n P row args w R := by
  intro c cs _
  obtain ⟨v, w', h1, h2⟩ := h c cs
  refine ⟨v, w', h1, ?_⟩
  cases r with
  | none => exact stepsIn_wide.2 h2
  | some l => exact stepsIn_wide.2 h2

def noDefer (o : Oper) : Bool := match o.op with | .defer _ => false | _ => true
theorem wpI_of {P : Program} {o : Oper} {r : Option Nat} {a : Act} {w : World} {K : Act → World → Prop} {Q : Exit → Act → World → Prop} (hd : noDefer o = true) (h : o.wp P a w K Q) : o.wpIn (FI r) 0 P a w K Q := by
  have hd' : ∀ c, o.op ≠ .defer c := fun c hc => by simp [noDefer, hc] at hd
  refine ⟨fun f _ => FI_fn r f, ?_⟩
  rw [Oper.semAt_eq _ _ _ hd']
  unfold Oper.wp at h
  generalize (execOp a.eval o).run P w = x at h
  cases x with
  | ok y w' =>
    cases y <;> simp only [Oper.upon] at h <;> simp only [Oper.uponIn]
    all_goals first
      | exact h
      | exact ⟨fun hh => (by rw [FI_depth] at hh; cases hh), callsI h⟩
      | exact ⟨fun hh => (by rw [FI_depth] at hh; cases hh), rowsI h⟩
  | halt y w' => cases y <;> simp only [Oper.upon] at h <;> simp only [Oper.uponIn] <;> exact h

section
variable {P : Program} {T : Tab} {G : Glob} {ops : Array Oper} {rest : List Oper} {o : Oper} {fr : Fr} {H : AH} {Q : AQ} {r : Option Nat}

/-- The judgement on code within a round (or without). -/
def AWpR (P : Program) (G : Glob) (r : Option Nat) (c : Code) (fr : Fr) (H : AH) (Q : AQ) : Prop :=
  ∀ κ I a w, GRel I w G → HRel κ I H w → FRel I w κ fr a → c.wpIn (FI r) 0 P (APost κ I H w Q) a w

theorem AWp.ofR {c : Code} (h : AWpR P G none c fr H Q) : AWp P G c fr H Q := fun κ I a w hg hr hf => wpIn_wide.1 (h κ I a w hg hr hf)

theorem no_out {κ : Kap} {I : Nat → Prop} {w : World} : ¬ LetsOut (APost κ I H w Q) := by
  rintro ⟨a, w', x, fr', H', κ', I', h1, _⟩
  cases x <;> exact h1

theorem listI_of {R : Exit → Act → World → Prop} (hR : ¬ LetsOut R) : ∀ (l : List Oper) (a : Act) (w : World), (l.all noDefer = true) → wpList P ops R l a w → wpListIn (FI r) 0 P ops R l a w := by
  intro l
  induction l with
  | nil => intro a w _ h; exact h
  | cons o l ih =>
    intro a w hd h
    rw [List.all_cons, Bool.and_eq_true] at hd
    simp only [wpList] at h
    simp only [wpListIn]
    split
    · rename_i hw
      rw [if_pos hw] at h
      exact wpI_of hd.1 (Oper.wp_mono (fun a w => ih a w hd.2) (h.resolve_right fun x => hR x.2))
    · rename_i hw
      rw [if_neg hw] at h
      exact ⟨fun f _ => FI_fn r f, ih _ _ hd.2 h⟩
theorem anyI_of {R : Exit → Act → World → Prop} (hR : ¬ LetsOut R) (hd : ∀ (i : Nat) (o : Oper), ops[i]? = some o → noDefer o = true) : ∀ (n : Nat) (l : Array Bool) (a : Act) (w : World), wpAny P .any ops R n l a w → wpAnyIn (FI r) 0 P .any ops R n l a w := by
  intro n
  induction n with
  | zero => intro l a w h; exact h
  | succ n ih =>
    intro l a w h
    refine ⟨h.1, fun i hi => ?_⟩
    have := h.2 i hi
    unfold wpOp at this
    unfold wpOpIn
    split
    · rename_i ho; simp only [ho] at this; exact ih _ _ _ this
    · rename_i o ho
      simp only [ho] at this
      split
      · rename_i hw
        rw [if_pos hw] at this
        exact wpI_of (hd i o ho) (Oper.wp_mono (fun a w => ih _ a w) (this.resolve_right fun x => hR x.2))
      · rename_i hw
        rw [if_neg hw] at this
        exact ⟨fun f _ => FI_fn r f, ih _ _ _ this⟩

theorem AWpR.region_lit {id : Nat} {l : List Oper} (hd : l.all noDefer = true) (h : AOps P G l.toArray l fr H Q) : AWpR P G r (.region id l.toArray false) fr H Q :=
  fun κ I a w hg hr hf => wpIn_region_lit (listI_of no_out l a w hd (h κ I a w hg hr hf))
theorem AWpR.skip (h : Q .normal fr H) : AWpR P G r .skip fr H Q :=
  fun κ I a w hg hr hf => wpIn_skip ⟨.normal, fr, H, κ, I, trivial, hr, hf, Stp.refl .., h⟩
theorem AWpR.exit {i : Nat} (h : Q (.exit i) fr H) : AWpR P G r (.exit i) fr H Q :=
  fun κ I a w hg hr hf => wpIn_exit ⟨.exit i, fr, H, κ, I, rfl, hr, hf, Stp.refl .., h⟩
theorem AWpR.ret (h : Q .ret fr H) : AWpR P G r .ret fr H Q :=
  fun κ I a w hg hr hf => wpIn_ret ⟨.ret, fr, H, κ, I, trivial, hr, hf, Stp.refl .., h⟩
theorem AWpR.seq {x y : Code} (h : AWpR P G r x fr H (AQ.then (fun fr' H' => AWpR P G r y fr' H' Q) Q)) : AWpR P G r (.seq x y) fr H Q :=
  fun κ I a w hg hr hf => wpIn_seq (wpIn_mono (h κ I a w hg hr hf) fun _ _ _ hp =>
    hp.then hg hr fun fr' H' κ' I' a' w' hn hg' hr' hf' hs => wpIn_mono (hn κ' I' a' w' hg' hr' hf') fun _ _ _ => APost.back hs)
theorem AWpR.block {id : Nat} {c : Code} (h : AWpR P G r c fr H (AQ.inBlock id Q)) : AWpR P G r (.block id c) fr H Q :=
  fun κ I a w hg hr hf => wpIn_block (wpIn_mono (h κ I a w hg hr hf) fun e a' w' hp => by
    obtain ⟨x, fr', H', κ', I', h1, h2, h3, h4, h5⟩ := hp
    cases x <;> cases e <;> simp only [ERel] at h1 <;> simp only [Exit.inBlock] <;> simp only [AQ.inBlock] at h5
    · exact ⟨.normal, fr', H', κ', I', h1, h2, h3, h4, h5⟩
    · subst h1
      split
      · rename_i e; rw [if_pos e] at h5; exact ⟨.normal, fr', H', κ', I', trivial, h2, h3, h4, h5⟩
      · rename_i e; rw [if_neg e] at h5; exact ⟨.exit _, fr', H', κ', I', rfl, h2, h3, h4, h5⟩
    · exact ⟨.goto _, fr', H', κ', I', h1, h2, h3, h4, h5⟩
    · exact ⟨.ret, fr', H', κ', I', h1, h2, h3, h4, h5⟩
    · exact ⟨.panic _, fr', H', κ', I', h1, h2, h3, h4, h5⟩)
theorem AWpR.mono {c : Code} {Q' : AQ} (h : AWpR P G r c fr H Q) (hq : ∀ e fr H, Q e fr H → Q' e fr H) : AWpR P G r c fr H Q' :=
  fun κ I a w hg hr hf => wpIn_mono (h κ I a w hg hr hf) fun _ _ _ hp => hp.mono hq
theorem AWpR.cond {x : Operand} {y z : Code} {b : Bool} (hb : aeval G fr x = .bool b) (h : AWpR P G r (bif b then y else z) fr H Q) : AWpR P G r (.cond x y z) fr H Q := by
  intro κ I a w hg hr hf
  have hv := aeval_vr hg hf x
  rw [hb] at hv
  generalize ha : a.eval x = v at hv
  cases hv
  have := h κ I a w hg hr hf
  cases b <;> exact wpIn_cond ha this
theorem AWpR.pre {c : Code} {fr2 : Fr} {H2 : AH} (hs : ASt fr H fr2 H2) (h : AWpR P G r c fr2 H2 Q) : AWpR P G r c fr H Q := by
  intro κ I a w hg hr hf
  obtain ⟨κ', I', h1, h2, h3⟩ := hs κ I a w hr hf
  exact wpIn_mono (h κ' I' a w (h3.grel hr hg) h1 h2) fun _ _ _ => APost.back h3
theorem AWpR.draw {id : Nat} (hmix : P.follows .mixedOrders = true) (hd : ∀ (i : Nat) (o : Oper), ops[i]? = some o → noDefer o = true) (m : Nat) (hck : drawOk ops m = true)
    (h : ADraw P G ops H (fun fr' => AAny P G ops (ops.size - m) (lis m ops.size) fr' H Q) (ops.toList.take m) fr) : AWpR P G r (.region id ops true) fr H Q :=
  fun κ I a w hg hr hf => wpIn_region_any hmix (anyI_of no_out hd _ _ _ _ (draw_any m hck h κ I a w hg hr hf))
theorem noDefer_lit {l : List Oper} (h : l.all noDefer = true) : ∀ (i : Nat) (o : Oper), l.toArray[i]? = some o → noDefer o = true := fun i o ho => by
  rw [List.getElem?_toArray] at ho
  exact List.all_eq_true.1 h o (List.mem_of_getElem? ho)
theorem AWpR.drawS (hmix : P.follows .mixedOrders = true) {id : Nat} {l : List Oper} (hd : l.all noDefer = true) (m : Nat) (hck : drawOk l.toArray m = true) (hs : serial l m = true)
    (h : ADraw P G l.toArray H (fun fr' => AOps P G l.toArray (l.drop m) fr' H Q) (l.take m) fr) : AWpR P G r (.region id l.toArray true) fr H Q :=
  AWpR.draw hmix (noDefer_lit hd) m hck (ADraw.serial m hck hs h)
theorem AWpR.drawB (hmix : P.follows .mixedOrders = true) {id : Nat} {l : List Oper} (hd : l.all noDefer = true) (m n : Nat) (bs : List Bool) (hck : drawOk l.toArray m = true) (hn : l.toArray.size - m = n) (hb : lis m l.toArray.size = ⟨bs⟩)
    (h : ADraw P G l.toArray H (fun fr' => AAny P G l.toArray n ⟨bs⟩ fr' H Q) (l.take m) fr) : AWpR P G r (.region id l.toArray true) fr H Q := by
  refine AWpR.draw hmix (noDefer_lit hd) m hck ?_
  rw [hn, hb]
  exact h
/-- A loop: what stands at each round's head is told by a state of one's own. -/
theorem AWpR.loopK {c : Code} {σ : Type} (S : σ → Fr) (SH : σ → AH) (μ : σ → Nat) (x0 : σ) (h0 : ASt fr H (S x0) (SH x0))
    (round : ∀ x, AWpR P G r c (S x) (SH x) (AQ.then (fun fr' H' => ∃ x', μ x' < μ x ∧ KSt (SH x).length fr' H' (S x') (SH x')) Q)) : AWpR P G r (.loop c) fr H Q := by
  refine AWpR.pre h0 ?_
  intro κ I a w hg hr hf b k cs hro hb hroom
  have key : ∀ n x, μ x = n → ∀ κ I a w, GRel I w G → HRel κ I (SH x) w → FRel I w κ (S x) a →
      ∃ e a' w', APost κ I (SH x) w Q e a' w' ∧ ArrivesIn (Machine.fenced P (FI r)) P (lone (b.atR a (.code c :: .inLoop c :: k)) cs w) b k cs e a' w' := by
    intro n
    induction n using Nat.strongRecOn with
    | _ n ih =>
      intro x hx κ I a w hg hr hf
      obtain ⟨e, a1, w1, hq, harr⟩ := round x κ I a w hg hr hf b (.inLoop c :: k) cs hro hb hroom
      have hq' := hq.then (K := fun a' w' => ∃ x' κ' I', μ x' < μ x ∧ GRel I' w' G ∧ HRel κ' I' (SH x') w' ∧ FRel I' w' κ' (S x') a' ∧ Stp κ I (SH x) w κ' I' (SH x') w') hg hr
        (by
          rintro fr' H' κ' I' a' w' ⟨x', hlt, hk⟩ hg' hr' hf' hs
          obtain ⟨κ2, I2, m1, m2, m3⟩ := hk κ I (SH x) w κ' I' a' w' rfl hr hs hr' hf'
          exact ⟨x', κ2, I2, hlt, m3.grel hr hg, m1, m2, m3⟩)
      cases e with
      | normal =>
        obtain ⟨x', κ', I', hlt, hg', hr', hf', hs⟩ := hq'
        obtain ⟨e2, a2, w2, hq2, harr2⟩ := ih (μ x') (hx ▸ hlt) x' rfl κ' I' a1 w1 hg' hr' hf'
        exact ⟨e2, a2, w2, APost.back hs hq2, .of_steps (StepsIn.trans harr (.one (fenced_calm hb hroom rfl) stepR_inLoop)) harr2⟩
      | exit id => exact ⟨_, a1, w1, hq', .pass (x := .inLoop c) rfl (fun _ _ => .inl (by simp)) harr⟩
      | goto l => exact ⟨_, a1, w1, hq', .pass (x := .inLoop c) rfl (fun _ _ => .inl (by simp)) harr⟩
      | ret => exact ⟨_, a1, w1, hq', .pass (x := .inLoop c) rfl (fun _ _ => .inl (by simp)) harr⟩
      | panic ch => exact ⟨_, a1, w1, hq', .pass (x := .inLoop c) rfl (fun _ _ => .inl (by simp)) harr⟩
      | outgrown => exact ⟨_, a1, w1, hq', .pass (x := .inLoop c) rfl (fun _ _ => .inl (by simp)) harr⟩
  obtain ⟨e, a', w', hq, harr⟩ := key _ x0 rfl κ I a w hg hr hf
  exact ⟨e, a', w', hq, .of_steps (.one (fenced_calm hb hroom rfl) stepR_loop) harr⟩

/-! ### Regions with a call of yield -/
def AOpsR (P : Program) (G : Glob) (r : Option Nat) (ops : Array Oper) (rest : List Oper) (fr : Fr) (H : AH) (Q : AQ) : Prop :=
  ∀ κ I a w, GRel I w G → HRel κ I H w → FRel I w κ fr a → wpListIn (FI r) 0 P ops (APost κ I H w Q) rest a w
theorem AWpR.region_ops {id : Nat} {l : List Oper} (h : AOpsR P G r l.toArray l fr H Q) : AWpR P G r (.region id l.toArray false) fr H Q :=
  fun κ I a w hg hr hf => wpIn_region_lit (h κ I a w hg hr hf)
theorem AOpsR.of (hd : rest.all noDefer = true) (h : AOps P G ops rest fr H Q) : AOpsR P G r ops rest fr H Q :=
  fun κ I a w hg hr hf => listI_of no_out rest a w hd (h κ I a w hg hr hf)
theorem listIn_mono {R R' : Exit → Act → World → Prop} (hR : ∀ e a w, R e a w → R' e a w) : ∀ (l : List Oper) (a : Act) (w : World), wpListIn (FI r) 0 P ops R l a w → wpListIn (FI r) 0 P ops R' l a w := by
  intro l
  induction l with
  | nil => intro a w h; exact hR _ _ _ h
  | cons o l ih =>
    intro a w h
    simp only [wpListIn] at h ⊢
    split
    · rename_i hw
      rw [if_pos hw] at h
      refine ⟨h.1, ?_⟩
      have h2 := h.2
      generalize (o.semAt (FI r).round a.eval).run P w = x at h2 ⊢
      cases x with
      | ok y w' =>
        cases y <;> simp only [Oper.uponIn] at h2 ⊢
        all_goals first
          | exact ih _ _ h2
          | (refine ⟨h2.1, h2.2.mono fun e w2 he => ?_⟩
             cases e with
             | returned v => exact ih _ _ he
             | panicked ch => exact hR _ _ _ he
             | outgrown => obtain ⟨a0, w0, hq⟩ := he; exact ⟨a0, w0, hR _ _ _ hq⟩)
          | (refine ⟨h2.1, fun c cs hh => ?_⟩
             obtain ⟨v, w2, he, hs⟩ := h2.2 c cs hh
             exact ⟨v, w2, ih _ _ he, hs⟩)
      | halt y w' => cases y <;> simp only [Oper.uponIn] at h2 ⊢ <;> first | exact h2 | exact hR _ _ _ h2
    · rename_i hw
      rw [if_neg hw] at h
      exact ⟨h.1, ih _ _ h.2⟩
theorem listI_app {R : Exit → Act → World → Prop} {l2 : List Oper} : ∀ (l : List Oper) (a : Act) (w : World), wpListIn (FI r) 0 P ops (Exit.then (fun a w => wpListIn (FI r) 0 P ops R l2 a w) R) l a w → wpListIn (FI r) 0 P ops R (l ++ l2) a w := by
  intro l
  induction l with
  | nil => intro a w h; exact h
  | cons o l ih =>
    intro a w h
    simp only [wpListIn, List.cons_append] at h ⊢
    split
    · rename_i hw
      rw [if_pos hw] at h
      refine ⟨h.1, ?_⟩
      have h2 := h.2
      generalize (o.semAt (FI r).round a.eval).run P w = x at h2 ⊢
      have out : LetsOut (Exit.then (fun a w => wpListIn (FI r) 0 P ops R l2 a w) R) → LetsOut R := fun ⟨a0, w0, hq⟩ => ⟨a0, w0, hq⟩
      cases x with
      | ok y w' =>
        cases y <;> simp only [Oper.uponIn] at h2 ⊢
        all_goals first
          | exact ih _ _ h2
          | (refine ⟨h2.1, h2.2.mono fun e w2 he => ?_⟩
             cases e with
             | returned v => exact ih _ _ he
             | panicked ch => exact he
             | outgrown => exact out he)
          | (refine ⟨h2.1, fun c cs hh => ?_⟩
             obtain ⟨v, w2, he, hs⟩ := h2.2 c cs hh
             exact ⟨v, w2, ih _ _ he, hs⟩)
      | halt y w' => cases y <;> simp only [Oper.uponIn] at h2 ⊢ <;> exact h2
    · rename_i hw
      rw [if_neg hw] at h
      exact ⟨h.1, ih _ _ h.2⟩
/-- A first part without a call of yield. -/
theorem AOpsR.cut {l1 l2 : List Oper} (hd : l1.all noDefer = true) (h : AOps P G ops l1 fr H (AQ.then (fun fr' H' => AOpsR P G r ops l2 fr' H' Q) Q)) : AOpsR P G r ops (l1 ++ l2) fr H Q := by
  intro κ I a w hg hr hf
  refine listI_app l1 a w (listI_of (R := Exit.then (fun a' w' => wpListIn (FI r) 0 P ops (APost κ I H w Q) l2 a' w') (APost κ I H w Q)) ?_ l1 a w hd (wpList_mono (fun e a' w' hp => ?_) l1 a w (h κ I a w hg hr hf)))
  · rintro ⟨a0, w0, hq⟩
    exact no_out ⟨a0, w0, hq⟩
  · exact hp.then hg hr fun fr' H' κ' I' a' w' hn hg' hr' hf' hs => listIn_mono (fun _ _ _ => APost.back hs) _ _ _ (hn κ' I' a' w' hg' hr' hf')

/-- yield, called: a round. -/
theorem AOpsR.yield {f x : Operand} {ts : Array TypeId} {lid p n : Nat} {s : List (Nat × AV)} {asg body : Code} (hw : wantedA ops fr o true) (hd : dstOk o fr.n) (ho : o.op = .call { callee := .value f, args := #[x], argTypes := ts }) (hf' : aeval G fr f = .yield lid)
    (hB : H[lid]? = some (.loopR s n [p] asg body .ready none)) (hp : p < n)
    (h : ∀ l, AWpR P G (some l) asg ⟨(p, aeval G fr x) :: s, n, []⟩ H (fun e fr2 H2 => e = .normal ∧ H2[lid]? = some (.loopR s n [p] asg body .ready none) ∧
      AWpR P G (some l) body fr2 (H2.set lid (.loopR s n [p] asg body .busy none)) (fun e3 fr3 H3 => e3 = .normal ∧ H3[lid]? = some (.loopR s n [p] asg body .busy none) ∧
        AOpsR P G none ops rest (fr.put o.dst (.bool true)) (H3.set lid (.loopR s n [p] asg body .ready none)) Q))) : AOpsR P G none ops (o :: rest) fr H Q := by
  intro κ I a w hg hr hf
  have hv := aeval_vr hg hf f
  have hx := aeval_vr hg hf x
  rw [hf'] at hv
  obtain ⟨c, l, rc, hc, q1, q2, q3, q4, q5, q6, q7, q8, q9, q10⟩ := hr.ok lid _ hB
  have hfv : a.eval f = .func (.yield l) #[] #[] := by
    generalize a.eval f = v at hv
    cases hv
    rename_i c' hc' hv hh
    rw [hc] at hc'; cases hc'
    obtain ⟨l', e1, e2⟩ := hh q1
    rw [q2] at e1
    cases e1
    exact e2
  simp only [wpListIn]
  rw [if_pos (wanted_run hf hw)]
  have hps : rc.params = #[p] := by apply Array.ext'; simpa using q6
  have hrun : ((execOp a.eval o).run P w) = .ok (.round l rc.fn (rc.tmps.setIfInBounds p (a.eval x)) asg body) w := by
    have hy := run_yield (P := P) (args := #[a.eval x]) q3 (by rw [hps]; rfl)
    simp only [execOp, ho, resolve, Deferred.ofValue, hfv, invoke, Sem.run_bind, Sem.run_pure, Result.andThen_ok, List.map_toArray, List.map_cons, List.map_nil, Array.append_empty, Array.empty_append]
    refine Eq.trans ?_ (hy.trans ?_)
    · rfl
    · rw [hps, q7, q8]; simp
  have hnd : ∀ c, o.op ≠ .defer c := fun c hc => by rw [ho] at hc; cases hc
  refine ⟨fun g _ => FI_fn none g, ?_⟩
  rw [Oper.semAt_eq _ _ _ hnd, hrun, Oper.uponIn_round]
  refine ⟨fun hh => (by cases hh), ?_⟩
  refine roundIn_of_wpIn (FI_fn none _) ?_
  have hFl : (FI none).inRound l = FI (some l) := rfl
  rw [hFl]
  have hfr1 : FRel I w κ ⟨(p, aeval G fr x) :: s, n, []⟩ { tmps := rc.tmps.setIfInBounds p (a.eval x), defers := [] } := by
    refine ⟨by simp [q9], fun i y hy => ?_, rfl, fun i y hy => by simp at hy⟩
    simp only [List.lookup] at hy
    by_cases e : i = p
    · subst e
      simp only [beq_self_eq_true, Option.some.injEq] at hy
      subst hy
      have hlt : i < rc.tmps.size := by omega
      simpa [Array.getD, hlt] using hx
    · have e' : (i == p) = false := by simpa using e
      rw [e'] at hy
      have e3 : (rc.tmps.setIfInBounds p (a.eval x)).getD i undef = rc.tmps.getD i undef := by
        rw [Array.getD_eq_getD_getElem?, Array.getD_eq_getD_getElem?, Array.getElem?_setIfInBounds_ne (fun hh => e hh.symm)]
      rw [e3]
      exact q10 (i, y) (lookup_mem hy)
  refine wpIn_mono (h l κ I _ w hg hr hfr1) ?_
  rintro e a1 w1 ⟨x1, fr2, H2, κ2, I2, h1, h2, h3, h4, rfl, hB2, hbody⟩
  cases e <;> simp only [ERel] at h1
  -- the record is busy
  have turn : ∀ {κ : Kap} {I : Nat → Prop} {H : AH} {w : World} {st st' : LoopState} {pd : Option Code} (hr : HRel κ I H w) (hB : H[lid]? = some (.loopR s n [p] asg body st pd)) (hc0 : ∃ c, κ lid = some c ∧ c.hdr = .pointer (some ⟨l, 0, none⟩)),
      ∃ rc, w.heap[l]? = some (.loop rc) ∧ rc.state = st ∧ HRel κ I (H.set lid (.loopR s n [p] asg body st' none)) (w.putObj l (.loop { rc with state := st', pending := none })) ∧ Stp κ I H w κ I (H.set lid (.loopR s n [p] asg body st' none)) (w.putObj l (.loop { rc with state := st', pending := none })) := by
    intro κ I H w st st' pd hr hB hc0
    obtain ⟨c, l', rc, hc, q1, q2, q3, q4, q5, q6, q7, q8, q9, q10⟩ := hr.ok lid _ hB
    obtain ⟨c0, hc0, hl⟩ := hc0
    rw [hc] at hc0; cases hc0
    rw [q2] at hl
    cases hl
    have hlt := (Array.getElem?_eq_some_iff.1 q3).1
    have hup : upd κ lid c = κ := by
      funext j
      by_cases e : j = lid
      · subst e; rw [upd_same, hc]
      · rw [upd_ne _ _ e]
    have hk : ∀ b, b < w.heap.size → hblk c.hdr ≠ some b → (w.putObj l (.loop { rc with state := st', pending := none })).heap[b]? = w.heap[b]? := by
      intro b hb hne
      rw [q2] at hne
      exact World.putObj_heap_other fun e => hne (by rw [e]; rfl)
    have hIn : ∀ b, I b → (w.putObj l (.loop { rc with state := st', pending := none })).heap[b]? = w.heap[b]? := fun b hb => hk b (hr.sep b hb).1 fun e => (hr.sep b hb).2 ⟨lid, _, c, hB, rfl, hc, e⟩
    obtain ⟨m1, m2⟩ := hr.write (B := .loopR s n [p] asg body st' none) (c := c) (w' := w.putObj l (.loop { rc with state := st', pending := none })) hB rfl hc rfl rfl rfl (by simp) hk (Nat.le_refl _) (fun _ => rfl) (fun b hb => .inr hb)
      ⟨c, l, { rc with state := st', pending := none }, upd_same _ _ _, q1, q2, World.putObj_heap_same hlt, rfl, rfl, q6, q7, q8, q9, fun z hz => (q10 z hz).mono (fun _ x => x) hIn (by rw [hup]; exact Ext.refl _)⟩
    rw [hup] at m1 m2
    exact ⟨rc, q3, q4, m1, m2⟩
  have cl : ∀ {κ' : Kap} {I' : Nat → Prop} {H' : AH} {w' : World} {st : LoopState} {pd : Option Code}, Ext κ κ' → HRel κ' I' H' w' → H'[lid]? = some (.loopR s n [p] asg body st pd) → ∃ c, κ' lid = some c ∧ c.hdr = .pointer (some ⟨l, 0, none⟩) := by
    intro κ' I' H' w' st pd he hr' hB'
    obtain ⟨c', e1, e2, e3⟩ := he lid c hc
    obtain ⟨c2, _, _, z1, z2, _⟩ := hr'.ok lid _ hB'
    rw [e1] at z1; cases z1
    have := e3 (by omega)
    subst this
    exact ⟨c', e1, q2⟩
  obtain ⟨rc2, b1, b2, b3, b4⟩ := turn (st' := .busy) h2 hB2 (cl h4.ext h2 hB2)
  have hpd : rc2.pending = none := by
    obtain ⟨c', l', rc', hc', _, y2, y3, _, y5, _⟩ := h2.ok lid _ hB2
    obtain ⟨c0, z1, z2⟩ := cl h4.ext h2 hB2
    rw [hc'] at z1; cases z1
    rw [y2] at z2; cases z2
    rw [y3] at b1; cases b1
    exact y5
  refine ⟨_, run_beginRound b1 b2, ?_⟩
  have eb : ({ rc2 with state := .busy, pending := none } : Loop) = { rc2 with state := .busy } := by rw [← hpd]
  rw [eb] at b3 b4
  have hs2 := h4.trans b4
  refine wpIn_mono (hbody κ2 I2 a1 _ (hs2.grel hr hg) b3 (b4.frel h2 h3)) ?_
  rintro e3 a3 w3 ⟨x3, fr3, H3, κ3, I3, k1, k2, k3, k4, rfl, hB3, hcont⟩
  cases e3 <;> simp only [ERel] at k1
  have hs3 := hs2.trans k4
  obtain ⟨rc3, d1, d2, d3, d4⟩ := turn (st' := .ready) k2 hB3 (cl hs3.ext k2 hB3)
  refine ⟨.bool true, _, run_endRound none d1, ?_⟩
  have hs4 := hs3.trans d4
  exact listIn_mono (fun _ _ _ => APost.back hs4) rest _ _ (hcont κ3 I3 _ _ (hs4.grel hr hg) d3 ((hs4.frel hr hf).put hd .bool))
end
end Go.Proofs.Ax
/- AX, part Rh: a range over a function; a function that holds one. -/
set_option linter.unusedVariables false
set_option linter.unusedSimpArgs false
namespace Go.Proofs.Ax
open Go.RowKit

section
variable {P : Program} {T : Tab} {G : Glob} {fr : Fr} {H : AH} {Q : AQ}

theorem allocOld (w : World) (ob : Obj) (b : Nat) (hb : b < w.heap.size) : (w.alloc ob).heap[b]? = w.heap[b]? := by
  show (w.heap.push ob)[b]? = _
  rw [Array.getElem?_push_lt hb, Array.getElem?_eq_getElem hb]
/-- The statement: the generator is called with yield; no round has left a jump. -/
theorem AWpR.rangeFunc {g : Operand} {ps : Array Nat} {asg body : Code} {f : FuncId} {cap : List AV} {fn : Func} {s : List (Nat × AV)} (hg' : aeval G fr g = .func (.func f) [] cap) (hf : P.funcs[f]? = some fn) (hb : fn.body.isNone = false) (hn : (fn.name == "runtime.NumGoroutine") = false)
    (hs : ∀ q ∈ s, fr.s.lookup q.1 = some q.2)
    (h : ACalls P G f (.yield (H.length + 1) :: cap) (H ++ [.marks, .loopR s fr.n ps.toList asg body .ready none]) (fun e H2 => (∃ v, e = .ret v) ∧ H2[H.length + 1]? = some (.loopR s fr.n ps.toList asg body .ready none) ∧
      Q .normal ⟨fr.s, fr.n, ⟨.yield 0, [.obj H.length], [], true⟩ :: fr.d⟩ (H2.set (H.length + 1) .dead))) : AWpR P G none (.rangeFunc g ps asg body) fr H Q := by
  intro κ I a w hg hr hfr
  refine wpIn_rangeFunc fun fn0 _ => ?_
  have hv := aeval_vr hg hfr g
  rw [hg'] at hv
  generalize ha : a.eval g = v at hv
  cases hv with
  | @func _ _ _ _ us vs l1 l2 v1 v2 =>
  obtain rfl : us = [] := List.eq_nil_of_length_eq_zero l1
  let w1 := w.alloc (.deferred (some []))
  let rc : Loop := { state := .ready, pending := none, fn := fn0, tmps := a.tmps, params := ps, assign := asg, body := body, defers := w.heap.size }
  let w2 := w1.alloc (.loop rc)
  have hk1 : ∀ b, b < w.heap.size → w1.heap[b]? = w.heap[b]? := fun b hb => allocOld w _ b hb
  obtain ⟨r1, s1⟩ := hr.push (w' := w1) (B := .marks) (c := ⟨.pointer (some ⟨w.heap.size, 0, none⟩), 0, 0⟩) rfl rfl rfl (by simp [w1]) hk1 (by intro b hb; cases hb; exact Nat.le_refl _) ⟨_, w.heap.size, upd_same _ _ _, rfl, rfl, heap_alloc_new w _⟩
  have hf1 := s1.frel hr hfr
  have hk2 : ∀ b, b < w1.heap.size → w2.heap[b]? = w1.heap[b]? := fun b hb => allocOld w1 _ b hb
  have hsz1 : w1.heap.size = w.heap.size + 1 := by simp [w1]
  have hx2 : Ext (upd κ H.length ⟨.pointer (some ⟨w.heap.size, 0, none⟩), 0, 0⟩) (upd (upd κ H.length ⟨.pointer (some ⟨w.heap.size, 0, none⟩), 0, 0⟩) (H ++ [AB.marks]).length ⟨.pointer (some ⟨w1.heap.size, 0, none⟩), 0, 0⟩) := Ext.upd_new _ r1.new_none
  obtain ⟨r2, s2⟩ := r1.push (w' := w2) (B := .loopR s fr.n ps.toList asg body .ready none) (c := ⟨.pointer (some ⟨w1.heap.size, 0, none⟩), 0, 0⟩) rfl rfl rfl (by simp [w2]) hk2 (by intro b hb; cases hb; exact Nat.le_refl _)
    ⟨_, w1.heap.size, rc, upd_same _ _ _, rfl, rfl, heap_alloc_new w1 _, rfl, rfl, rfl, rfl, rfl, hfr.size, fun q hq => (hf1.slot q.1 q.2 (hs q hq)).mono (fun _ x => x) (fun b hb => hk2 b (r1.sep b hb).1) hx2⟩
  have hs12 := s1.trans s2
  rw [List.append_assoc] at r2 s2 hs12
  have hlen : (H ++ [AB.marks]).length = H.length + 1 := by simp
  rw [hlen] at r2 s2 hs12
  generalize hκ2 : upd (upd κ H.length ⟨.pointer (some ⟨w.heap.size, 0, none⟩), 0, 0⟩) (H.length + 1) ⟨.pointer (some ⟨w1.heap.size, 0, none⟩), 0, 0⟩ = κ2 at r2 s2 hs12
  have c1 : κ2 (H.length + 1) = some ⟨.pointer (some ⟨w1.heap.size, 0, none⟩), 0, 0⟩ := by rw [← hκ2, upd_same]
  have c0 : κ2 H.length = some ⟨.pointer (some ⟨w.heap.size, 0, none⟩), 0, 0⟩ := by rw [← hκ2, upd_ne _ _ (by omega), upd_same]
  have hargs : VRs I w2 κ2 (.yield (H.length + 1) :: cap) (.func (.yield w1.heap.size) #[] #[] :: vs) :=
    VRs.cons (.yield _ c1 ⟨_, rfl⟩ fun _ => ⟨_, rfl, rfl⟩) ⟨l2, fun i x hx => hs12.vr hr (v2 i x hx)⟩
  have hn' : ¬ fn.name = "runtime.NumGoroutine" := by simpa using hn
  have hb' : ¬ fn.body = none := fun hh => by rw [hh] at hb; cases hb
  refine ⟨w.heap.size + 1, [{ target := .collected w.heap.size, args := #[] }], w2, { target := .fn (.func f) ⟨vs⟩, args := #[.func (.yield (w.heap.size + 1)) #[] #[]] }, w2, f, ⟨.func (.yield w1.heap.size) #[] #[] :: vs⟩, w2, run_enterLoop_outer (P := P) (w := w) fn0 a.tmps ps asg body, ?_, fun _ _ => trivial, ?_, fun hh => (by cases hh), ?_⟩
  · simp only [rangeCall, resolve, List.map_toArray, List.map_cons, List.map_nil]
    show (Deferred.ofValue (a.eval g) #[.func (.yield (w.heap.size + 1)) #[] #[]]).run P w2 = _
    rw [ha]
    simp [Deferred.ofValue]
  · have e : (#[Value.func (.yield (w.heap.size + 1)) #[] #[]] : Array Value) ++ (⟨vs⟩ : Array Value) = ⟨.func (.yield w1.heap.size) #[] #[] :: vs⟩ := by apply Array.ext'; simp [hsz1]
    simp [invoke, callFunc, hf, hn', hb', e]
  · refine (callsI (r := none) (h κ2 I _ w2 (hs12.grel hr hg) r2 hargs)).mono ?_
    rintro en w3 ⟨x, H3, κ3, I3, h1, h2, h3, ⟨v, rfl⟩, hB3, hq⟩
    cases en <;> simp only [EndRel] at h1
    obtain ⟨c, l', rc3, hc, q1, q2, q3, q4, q5, q6, q7, q8, q9, q10⟩ := h2.ok _ _ hB3
    have hl : l' = w1.heap.size := by
      obtain ⟨c', e1, e2, e3⟩ := h3.ext _ _ c1
      rw [hc] at e1; cases e1
      have := e3 (by rw [q1])
      rw [this] at q2
      cases q2; rfl
    subst hl
    have hlt := (Array.getElem?_eq_some_iff.1 q3).1
    let w4 := w3.putObj w1.heap.size (.loop { rc3 with state := .exhausted })
    have hup : upd κ3 (H.length + 1) c = κ3 := by
      funext j
      by_cases e : j = H.length + 1
      · subst e; rw [upd_same, hc]
      · rw [upd_ne _ _ e]
    have hk : ∀ b, b < w3.heap.size → hblk c.hdr ≠ some b → w4.heap[b]? = w3.heap[b]? := by
      intro b hb hne
      rw [q2] at hne
      exact World.putObj_heap_other fun e => hne (by rw [e]; rfl)
    obtain ⟨m1, m2⟩ := h2.write (B := .dead) (c := c) (w' := w4) hB3 rfl hc rfl rfl rfl (by simp [w4]) hk (Nat.le_refl _) (fun _ => rfl) (fun b hb => .inr hb) trivial
    rw [hup] at m1 m2
    have hs4 := (hs12.trans h3).trans m2
    have hend : (Instr.endLoop w1.heap.size).run P w3 = .ok none w4 := (run_endLoop (P := P) q3 (by rw [q4]; intro e; cases e)).trans (congrArg (fun z => Result.ok z w4) q5)
    have e13 : w.heap.size + 1 = w1.heap.size := hsz1.symm
    rw [e13]
    refine ⟨none, w4, hend, .normal, _, _, κ3, I3, trivial, m1, ?_, hs4, hq⟩
    have hb := hs4.frel hr hfr
    refine ⟨hb.size, hb.slot, by simp [hb.dlen], fun i y hy => ?_⟩
    cases i with
    | zero =>
      simp only [List.getElem?_cons_zero, Option.some.injEq] at hy
      subst hy
      refine ⟨⟨[.pointer (some ⟨w.heap.size, 0, none⟩)], ⟨_, rfl, rfl⟩, .cons ((h3.trans m2).vr r2 (.obj _ c0 (.inr ⟨_, rfl⟩) fun _ => rfl)) .nil⟩, .nil⟩
    | succ i =>
      have := hb.defs i y (by simpa using hy)
      simpa using this

/-! ### A function that holds one such loop -/
def bodyM (T : Tab) (n0 : Nat) (rs : List ResultVar) (Q : AEnd → AH → Prop) : AQ
  | .normal, fr, H | .ret, fr, H => ∃ dfn mid xs, fr.d = [⟨dfn, [.obj mid], xs, true⟩] ∧ H[mid]? = some .marks ∧ ∃ p vs v2 H2, resA T fr (H.set mid .dead) rs = some (p, vs) ∧ p ∧ VSt n0 (packR vs) (H.set mid .dead) v2 H2 ∧ Q (.ret v2) H2
  | _, _, _ => False

theorem ACalls.of_bodyM (hT : T.ok P = true) {f : FuncId} {fn : Func} {c : Code} {args : List AV} {Q : AEnd → AH → Prop} {rs : List ResultVar} {n0 : Nat} (hf : P.funcs[f]? = some fn) (hb : fn.body = some c) (hrs : fn.results.toList = rs) (hn0 : H.length = n0)
    (h : AWpR P G none c (Fr.enter args fn.ntmps) H (bodyM T n0 rs Q)) : ACalls P G f args H Q := by
  subst hrs hn0
  intro κ I us w hg hr ha
  refine callsIn_wide.1 (callsIn_of_wp_marks (n := 0) hf hb trivial (wpIn_mono (h κ I _ w hg hr ?_) ?_))
  · refine ⟨?_, fun i x hx => ?_, rfl, fun i x hx => by simp [Fr.enter] at hx⟩
    · simp [Fr.enter, ha.1]
    · obtain ⟨_, h2⟩ := enterS_lookup hx
      have h3 := ha.2 i x (by simpa using h2)
      have hlt : i < us.length := by
        rw [ha.1]
        exact (List.getElem?_eq_some_iff.1 (by simpa using h2)).1
      have e : ((⟨us⟩ : Array Value) ++ Array.replicate (fn.ntmps - us.length) undef).getD i undef = us.getD i undef := by
        rw [Array.getD_eq_getD_getElem?, Array.getElem?_append_left (by simpa using hlt)]
        simp [List.getD]
      have e' : (⟨us⟩ : Array Value).size = us.length := rfl
      rw [e', e]
      exact h3
  · rintro e a' w' ⟨x, fr', H', κ', I', h1, h2, h3, h4, h5⟩
    have fin : (∃ dfn mid xs, fr'.d = [⟨dfn, [.obj mid], xs, true⟩] ∧ H'[mid]? = some .marks ∧ ∃ p vs v2 H2, resA T fr' (H'.set mid .dead) fn.results.toList = some (p, vs) ∧ p ∧ VSt H.length (packR vs) (H'.set mid .dead) v2 H2 ∧ Q (.ret v2) H2) →
        LeavesInM Fence.wide 0 P fn a'.tmps (CPost κ I H w Q) a'.defers .returning w' := by
      rintro ⟨dfn, mid, xs, hd, hB, p, vs, v2, H2, q1, q2, q3, q4⟩
      have hlen := h3.dlen
      have hds := h3.defs 0
      rw [hd] at hlen hds
      obtain ⟨d, hdd⟩ : ∃ d, a'.defers = [d] := by
        match hx : a'.defers, hlen with
        | [d], _ => exact ⟨d, rfl⟩
      obtain ⟨⟨us', t1, t2⟩, _⟩ := hds _ rfl
      rw [hdd] at t1 ⊢
      simp only at t1
      obtain ⟨r, rfl, htg⟩ := t1
      have ho := t2.2 0 (.obj mid) rfl
      obtain ⟨c, r', hc, y1, y2, y3⟩ := h2.ok _ _ hB
      have hr' : r' = r := by
        have ho' : VR I' w' κ' (.obj mid) (.pointer (some ⟨r, 0, none⟩)) := ho
        cases ho' with
        | obj c' hc' hv hh =>
          rw [hc] at hc'; cases hc'
          have := hh y1
          rw [y2] at this
          cases this; rfl
      subst hr'
      have hlt := (Array.getElem?_eq_some_iff.1 y3).1
      let w4 := w'.putObj r' (.deferred none)
      have hup : upd κ' mid c = κ' := by
        funext j
        by_cases e : j = mid
        · subst e; rw [upd_same, hc]
        · rw [upd_ne _ _ e]
      have hk : ∀ b, b < w'.heap.size → hblk c.hdr ≠ some b → w4.heap[b]? = w'.heap[b]? := by
        intro b hb hne
        rw [y2] at hne
        exact World.putObj_heap_other fun e => hne (by rw [e]; rfl)
      obtain ⟨m1, m2⟩ := h2.write (B := .dead) (c := c) (w' := w4) hB rfl hc rfl rfl rfl (by simp [w4]) hk (Nat.le_refl _) (fun _ => rfl) (fun b hb => .inr hb) trivial
      rw [hup] at m1 m2
      have hf4 := m2.frel h2 h3
      have hs4 := h4.trans m2
      obtain ⟨u, n1, n2⟩ := run_resultsR hT m1 hf4 q1 q2
      obtain ⟨κ2, I2, n3, n4, n5⟩ := q3 κ I H w κ' I' w4 u rfl hr hs4 m1 n2
      exact ⟨fun e => (by cases e), .inl ⟨r', w4, htg, run_takeDeferred y3, u, n1, .ret _, H2, κ2, I2, n4, n3, n5, q4⟩⟩
    cases x <;> cases e <;> simp only [ERel] at h1 <;> simp only [bodyM] at h5
    · exact fin h5
    · exact fin h5
theorem bodyR.norm {n0 : Nat} {rs : List ResultVar} {Q : AEnd → AH → Prop} {p : Prop} {vs : List AV} {v v2 : AV} {H2 : AH} (hd : fr.d = []) (hres : resA T fr H rs = some (p, vs)) (hp : p) (hv : packR vs = v) (hst : VSt n0 v H v2 H2) (hq : Q (.ret v2) H2) : bodyR T n0 rs Q .normal fr H :=
  ⟨hd, p, vs, v2, H2, hres, hp, hv ▸ hst, hq⟩
theorem bodyM.ret {n0 mid : Nat} {rs : List ResultVar} {Q : AEnd → AH → Prop} {p : Prop} {vs : List AV} {v v2 : AV} {H1 H2 : AH} {dfn : Fn} {xs : List AV} (hd : fr.d = [⟨dfn, [.obj mid], xs, true⟩]) (hm : H[mid]? = some .marks) (hH : H.set mid .dead = H1) (hres : resA T fr H1 rs = some (p, vs)) (hp : p) (hv : packR vs = v) (hst : VSt n0 v H1 v2 H2) (hq : Q (.ret v2) H2) : bodyM T n0 rs Q .ret fr H :=
  ⟨dfn, mid, xs, hd, hm, p, vs, v2, H2, hH ▸ hres, hp, hv ▸ hH ▸ hst, hq⟩
theorem AWpR.condT {r : Option Nat} {c : Operand} {x y : Code} (hb : aeval G fr c = .bool true) (ht : AWpR P G r x fr H Q) : AWpR P G r (.cond c x y) fr H Q := AWpR.cond hb ht
theorem AWpR.condF {r : Option Nat} {c : Operand} {x y : Code} (hb : aeval G fr c = .bool false) (hf : AWpR P G r y fr H Q) : AWpR P G r (.cond c x y) fr H Q := AWpR.cond hb hf
theorem AWpR.condP1 {r : Option Nat} {c : Operand} {x y : Code} {b : Bool} {p : Prop} (hb : aeval G fr c = .bool b) (hp : (b = true) = p) (ht : p → AWpR P G r x fr H Q) (hf : ¬ p → AWpR P G r y fr H Q) : AWpR P G r (.cond c x y) fr H Q := by
  refine AWpR.cond hb ?_
  cases b
  · exact hf (by rw [← hp]; simp)
  · exact ht (by rw [← hp])
theorem AOpsR.cutN {r : Option Nat} {ops : Array Oper} {l : List Oper} (m : Nat) (hd : (l.take m).all noDefer = true) (h : AOps P G ops (l.take m) fr H (AQ.then (fun fr' H' => AOpsR P G r ops (l.drop m) fr' H' Q) Q)) : AOpsR P G r ops l fr H Q := by
  have := AOpsR.cut (l2 := l.drop m) hd h
  rwa [List.take_append_drop] at this
theorem AOpsR.yield1 {ops : Array Oper} {rest : List Oper} {o : Oper} {s0 : List (Nat × AV)} {n0 d : Nat} {df : List ADef} {f x : Operand} {ts : Array TypeId} {lid p n : Nat} {s : List (Nat × AV)} {asg body : Code} {v : AV} (hdst : o.dst = some d) (hn0 : Nat.blt d n0 = true) (hw : wantedA ops ⟨s0, n0, df⟩ o true) (ho : o.op = .call { callee := .value f, args := #[x], argTypes := ts }) (hf' : aeval G ⟨s0, n0, df⟩ f = .yield lid)
    (hx : aeval G ⟨s0, n0, df⟩ x = v) (hB : H[lid]? = some (.loopR s n [p] asg body .ready none)) (hp : p < n)
    (h : ∀ l, AWpR P G (some l) asg ⟨(p, v) :: s, n, []⟩ H (fun e fr2 H2 => e = .normal ∧ H2[lid]? = some (.loopR s n [p] asg body .ready none) ∧
      AWpR P G (some l) body fr2 (H2.set lid (.loopR s n [p] asg body .busy none)) (fun e3 fr3 H3 => e3 = .normal ∧ H3[lid]? = some (.loopR s n [p] asg body .busy none) ∧
        AOpsR P G none ops rest ⟨(d, .bool true) :: s0, n0, df⟩ (H3.set lid (.loopR s n [p] asg body .ready none)) Q))) : AOpsR P G none ops (o :: rest) ⟨s0, n0, df⟩ H Q := by
  subst hx
  refine AOpsR.yield hw (dst_some hdst hn0) ho hf' hB hp fun l => ?_
  have := h l
  rwa [hdst]
/-- A loop in its block, then the rest. -/
theorem AWpR.thenM {r : Option Nat} {x y : Code} {τ : Type} (M : τ → Fr) (MH : τ → AH) (h : AWpR P G r x fr H (AQ.then (fun fr' H' => ∃ z, KSt H.length fr' H' (M z) (MH z)) Q)) (rest : ∀ z, AWpR P G r y (M z) (MH z) Q) : AWpR P G r x fr H (AQ.then (fun fr' H' => AWpR P G r y fr' H' Q) Q) := by
  intro κ I a w hg hr hf
  refine wpIn_mono (h κ I a w hg hr hf) ?_
  rintro e a' w' ⟨x1, fr', H', κ', I', h1, h2, h3, h4, h5⟩
  cases x1 <;> cases e <;> simp only [ERel] at h1 <;> simp only [AQ.then] at h5
  · obtain ⟨z, hk⟩ := h5
    obtain ⟨κ2, I2, m1, m2, m3⟩ := hk κ I H w κ' I' a' w' rfl hr h4 h2 h3
    refine ⟨.normal, M z, MH z, κ2, I2, trivial, m1, m2, m3, ?_⟩
    exact rest z
  · exact ⟨.exit _, fr', H', κ', I', h1, h2, h3, h4, h5⟩
  · exact ⟨.goto _, fr', H', κ', I', h1, h2, h3, h4, h5⟩
  · exact ⟨.ret, fr', H', κ', I', h1, h2, h3, h4, h5⟩
  · exact ⟨.panic _, fr', H', κ', I', h1, h2, h3, h4, h5⟩
theorem AWpR.isLoop {r : Option Nat} {i : Nat} {c : Code} (h : AWpR P G r (.block i (.loop c)) fr H Q) : AWpR P G r (.block i (.loop c)) fr H Q := h
/-- What is known at a code's end, told in other words. -/
theorem AWpR.post {r : Option Nat} {c : Code} (h : AWpR P G r c fr H (fun e fr' H' => e = .normal ∧ ∃ fr2 H2, KSt H.length fr' H' fr2 H2 ∧ Q .normal fr2 H2)) : AWpR P G r c fr H Q := by
  intro κ I a w hg hr hf
  refine wpIn_mono (h κ I a w hg hr hf) ?_
  rintro e a' w' ⟨x1, fr', H', κ', I', h1, h2, h3, h4, rfl, fr2, H2, hk, hq⟩
  obtain ⟨κ2, I2, m1, m2, m3⟩ := hk κ I H w κ' I' a' w' rfl hr h4 h2 h3
  cases e <;> simp only [ERel] at h1
  exact ⟨.normal, fr2, H2, κ2, I2, trivial, m1, m2, m3, hq⟩
/-! ### A region in several orders, step by step -/
def AStep (P : Program) (T : Tab) (G : Glob) (ops : Array Oper) (n : Nat) (l : List Bool) (fr : Fr) (H : AH) (Q : AQ) (i : Nat) : Prop :=
  ∃ o p v H' fr', ops.toList[i]? = some o ∧ o.guard = none ∧ astep T G fr H o.op = some (p, v, H') ∧ dstB o fr.n ∧ p ∧ fr.put o.dst v = fr' ∧ AAny P G ops n ⟨l.set i true⟩ fr' H' Q
theorem AAny.step {ops : Array Oper} (hT : T.ok P = true) {n : Nat} {l : List Bool} {rs : List Nat} (hl : l.length = ops.size) (hr : ready2 ops.toList (fun i => l.getD i false) = rs) (hne : rs ≠ []) (h : ∀ i ∈ rs, AStep P T G ops n l fr H Q i) : AAny P G ops (n + 1) ⟨l⟩ fr H Q := by
  intro κ I a w hg hrr hf
  refine ⟨fun he => ?_, fun i hi => ?_⟩
  · exfalso
    cases rs with
    | nil => exact hne rfl
    | cons i rs' =>
      have : i ∈ Region.ready .any ops ⟨l⟩ := by rw [ready2_mem hl, hr]; exact List.mem_cons_self
      rw [he] at this
      cases this
  · rw [ready2_mem hl, hr] at hi
    obtain ⟨o, p, v, H', fr', h1, h2, h3, h4, h5, rfl, h6⟩ := h i hi
    unfold wpOp
    rw [show ops[i]? = some o by simpa using h1]
    simp only []
    rw [if_pos (wanted_run hf (wanted_none h2))]
    left
    obtain ⟨u, κ', I', w', k4, k5, k6, k7⟩ := astep_ok hT h3 h5 κ I a w hg hrr hf
    have hf2 := (k7.frel hrr hf).put (dst_of h4) k5
    have hset : (⟨l⟩ : Array Bool).setIfInBounds i true = ⟨l.set i true⟩ := by
      apply Array.ext'
      simp
    have := wpAny_monoQ (fun _ _ _ => APost.back k7) _ _ _ _ (h6 κ' I' _ w' (k7.grel hrr hg) k6 hf2)
    rw [← hset] at this
    unfold Oper.wp
    rcases k4 with k4 | ⟨k4, rfl⟩ <;> rw [k4] <;> exact this
theorem AAny.one {ops : Array Oper} (hT : T.ok P = true) {n : Nat} {l : List Bool} {i : Nat} (hl : l.length = ops.size) (hr : ready2 ops.toList (fun i => l.getD i false) = [i]) (h : AStep P T G ops n l fr H Q i) : AAny P G ops (n + 1) ⟨l⟩ fr H Q :=
  AAny.step hT hl hr (by simp) fun j hj => by
    have : j = i := by simpa using hj
    subst this; exact h
theorem AAny.two {ops : Array Oper} (hT : T.ok P = true) {n : Nat} {l : List Bool} {i j : Nat} (hl : l.length = ops.size) (hr : ready2 ops.toList (fun i => l.getD i false) = [i, j]) (h : AStep P T G ops n l fr H Q i) (h' : AStep P T G ops n l fr H Q j) : AAny P G ops (n + 1) ⟨l⟩ fr H Q :=
  AAny.step hT hl hr (by simp) fun k hk => by
    have : k = i ∨ k = j := by simpa using hk
    rcases this with rfl | rfl
    · exact h
    · exact h'
theorem AAny.done {ops : Array Oper} {l : List Bool} (hl : l.length = ops.size) (hr : ready2 ops.toList (fun i => l.getD i false) = []) (h : Q .normal fr H) : AAny P G ops 0 ⟨l⟩ fr H Q := by
  intro κ I a w hg hrr hf
  refine ⟨?_, ⟨.normal, fr, H, κ, I, trivial, hrr, hf, Stp.refl .., h⟩⟩
  rw [List.eq_nil_iff_forall_not_mem]
  intro i hi
  rw [ready2_mem hl, hr] at hi
  cases hi
/-- A call that is handed blocks of the caller's. -/
theorem AOps.callf1 {ops : Array Oper} {rest : List Oper} {o : Oper} {s : List (Nat × AV)} {n d : Nat} {df : List ADef} {f : Operand} {args : Array Operand} {ts : Array TypeId} {g : FuncId} {first cap : List AV} {fn : Func} (σ : List Nat) (hdst : o.dst = some d) (hn0 : Nat.blt d n = true) (hw : wantedA ops ⟨s, n, df⟩ o true) (ho : o.op = .call { callee := .value f, args, argTypes := ts }) (hf' : aeval G ⟨s, n, df⟩ f = .func (.func g) first cap)
    (hg' : P.funcs[g]? = some fn) (hb : fn.body.isNone = false) (hn : (fn.name == "runtime.NumGoroutine") = false) (hnd : σ.Nodup) (hlt : ∀ x ∈ σ, x < H.length) {args' : List AV} (ha : AV.rens (posIn σ 0) (first ++ args.toList.map (aeval G ⟨s, n, df⟩) ++ cap) = args') {H1 H2 H3 : AH} (hH : H.keep 0 σ = H1) {r r' : AV}
    (hc : ACalls P G g args' H1 (fun e H => e = .ret r ∧ H = H2)) (hr : r.ren (upS σ H.length) = r') (hm : H.merge σ H2 = H3) (h : AOps P G ops rest ⟨(d, r') :: s, n, df⟩ H3 Q) : AOps P G ops (o :: rest) ⟨s, n, df⟩ H Q := by
  subst ha hH
  refine AOps.call hw (dst_some hdst hn0) ho hf' hg' hb hn ((ACalls.frame σ hnd hlt hc).mono ?_)
  rintro e H4 ⟨e0, H5, ⟨rfl, rfl⟩, rfl, rfl⟩
  simp only [AEnd.ren, callQ, hdst, Fr.put, hr, hm]
  exact h
end
end Go.Proofs.Ax

import Derived.Below
import Derived.Tactics
import Derived.Laws.OwnMore
import Derived.Laws.Slices
import Derived.Laws.MakeOwn
/- AX, part A: abstract values, abstract heaps, and how they stand to the model's worlds. Over any program. -/
set_option linter.unusedVariables false
set_option linter.unusedSimpArgs false
namespace Go.Proofs.Ax
open Go.RowKit

/-- Abstract values. 'ptr id k off st': into block id's element k at cell off, the block being st elements long; 'slice id st': the whole of block id; 'lit': a slice nobody writes to, its elements' cells; 'lptr': into such. -/
inductive AV where
  | any
  | bool (b : Bool)
  | int (k : IntKind) (n : Int)
  | str (s : List UInt8)
  | nilp
  | ptr (id k off st : Nat)
  | lptr (elems : List (List AV)) (k off : Nat)
  | nils
  | slice (id st : Nat)
  | lit (elems : List (List AV))
  | func (fn : Fn) (first captured : List AV)
  | nilf
  | obj (id : Nat)
  | nilm
  | iface (t : TypeId) (v : AV)
  | nili
  | agg (cells : List AV)
  | tuple (vs : List AV)
  | sub (id st lo len : Nat)
  | clit (elems : List (List AV))
  | yield (id : Nat)
  deriving Inhabited

/-- What stands concretely behind a block's number: the header (a slice over the whole row; a variable is a row of one), its stamp (how many elements), cells an element. -/
structure Conc where
  hdr : Value
  st : Nat
  sz : Nat

abbrev Kap := Nat → Option Conc
def kap0 : Kap := fun _ => none
def upd (κ : Kap) (id : Nat) (c : Conc) : Kap := fun j => if j = id then some c else κ j
def ofL (l : List UInt8) : ByteArray := ⟨⟨l⟩⟩

theorem ofL_size (l : List UInt8) : (ofL l).size = l.length := rfl
theorem ofL_data (l : List UInt8) : (ofL l).data.toList = l := rfl
theorem ofL_self (b : ByteArray) : ofL b.data.toList = b := by cases b; rfl

/-- A value stands for another one; I: blocks that nobody writes to. -/
inductive VR (I : Nat → Prop) (w : World) : Kap → AV → Value → Prop where
  | any {κ v} : VR I w κ .any v
  | bool {κ b} : VR I w κ (.bool b) (.bool b)
  | int {κ k n} : VR I w κ (.int k n) (.int k n)
  | str {κ s} (h : s.length ≤ maxLen) : VR I w κ (.str s) (.string (ofL s))
  | nilp {κ} : VR I w κ .nilp (.pointer none)
  | ptr {κ id k off st v} (c : Conc) (hc : κ id = some c) (hst : st ≤ c.st) (hp : ∃ a, v = .pointer (some a)) (h : c.st = st → ∃ b n cp, c.hdr = .slice (some ⟨b, 0, none⟩) n cp ∧ v = .pointer (some ⟨b, k * c.sz + off, none⟩)) : VR I w κ (.ptr id k off st) v
  | lptr {κ elems k off} (b o sz : Nat) (us : Nat → Value) (hI : I b) (hsz : ∀ e ∈ elems, e.length = sz) (hc : ∀ j, j < elems.length * sz → w.cell? ⟨b, o + j, none⟩ = some (us j)) (h1 : ∀ j, j < elems.length * sz → (us j).oneCell' = true)
      (h : ∀ j x, elems.flatten[j]? = some x → VR I w kap0 x (us j)) : VR I w κ (.lptr elems k off) (.pointer (some ⟨b, o + (k * sz + off), none⟩))
  | nils {κ} : VR I w κ .nils (.slice none 0 0)
  | slice {κ id st v} (c : Conc) (hc : κ id = some c) (hst : st ≤ c.st) (hl : ∃ a cp, v = .slice a st cp) (h : c.st = st → v = c.hdr) : VR I w κ (.slice id st) v
  | lit {κ elems a cp} (sz : Nat) (us : Nat → Value) (hcp : elems.length ≤ cp) (hm : elems.length ≤ maxLen) (hsz : ∀ e ∈ elems, e.length = sz) (hc : elems ≠ [] → ∃ b o, a = some ⟨b, o, none⟩ ∧ I b ∧ ∀ j, j < elems.length * sz → w.cell? ⟨b, o + j, none⟩ = some (us j))
      (h1 : ∀ j, j < elems.length * sz → (us j).oneCell' = true) (h : ∀ j x, elems.flatten[j]? = some x → VR I w kap0 x (us j)) : VR I w κ (.lit elems) (.slice a elems.length cp)
  | func {κ fn first captured us vs} (h1 : us.length = first.length) (h2 : vs.length = captured.length) (h3 : ∀ i x, first[i]? = some x → VR I w κ x (us.getD i undef)) (h4 : ∀ i x, captured[i]? = some x → VR I w κ x (vs.getD i undef)) : VR I w κ (.func fn first captured) (.func fn ⟨us⟩ ⟨vs⟩)
  | nilf {κ} : VR I w κ .nilf .nilFunc
  | obj {κ id v} (c : Conc) (hc : κ id = some c) (hv : (∃ r, v = .map (some r)) ∨ ∃ ad, v = .pointer (some ad)) (h : c.st = 0 → v = c.hdr) : VR I w κ (.obj id) v
  | nilm {κ} : VR I w κ .nilm (.map none)
  | iface {κ t x u} (h : VR I w κ x u) : VR I w κ (.iface t x) (.iface t u)
  | nili {κ} : VR I w κ .nili .nilIface
  | agg {κ cs us} (h1 : us.length = cs.length) (h : ∀ i x, cs[i]? = some x → VR I w κ x (us.getD i undef)) : VR I w κ (.agg cs) (.agg ⟨us⟩)
  | tuple {κ cs us} (h1 : us.length = cs.length) (h : ∀ i x, cs[i]? = some x → VR I w κ x (us.getD i undef)) : VR I w κ (.tuple cs) (.tuple ⟨us⟩)
  | sub {κ id st lo len v} (c : Conc) (hc : κ id = some c) (hst : st ≤ c.st) (hl : ∃ a cp, v = .slice a len cp) (h : c.st = st → ∃ b n cp o, c.hdr = .slice (some ⟨b, 0, none⟩) n cp ∧ v = .slice (some ⟨b, o, none⟩) len (cp - lo) ∧ lo + len ≤ st ∧ (lo < cp → o = lo * c.sz)) : VR I w κ (.sub id st lo len) v
  | clit {κ elems a} (h : VR I w κ (.lit elems) (.slice a elems.length elems.length)) : VR I w κ (.clit elems) (.slice a elems.length elems.length)
  | yield {κ id v} (c : Conc) (hc : κ id = some c) (hv : ∃ l, v = .func (.yield l) #[] #[]) (h : c.st = 0 → ∃ l, c.hdr = .pointer (some ⟨l, 0, none⟩) ∧ v = .func (.yield l) #[] #[]) : VR I w κ (.yield id) v

/-- What was known of blocks' numbers is known yet; a block whose stamp is as it was is where it was. -/
def Ext (κ κ' : Kap) : Prop := ∀ id c, κ id = some c → ∃ c', κ' id = some c' ∧ c.st ≤ c'.st ∧ (c'.st = c.st → c' = c)
theorem Ext.refl (κ : Kap) : Ext κ κ := fun _ c h => ⟨c, h, Nat.le_refl _, fun _ => rfl⟩
theorem Ext.trans {a b c : Kap} (h : Ext a b) (k : Ext b c) : Ext a c := by
  intro id x hx
  obtain ⟨y, hy, l1, e1⟩ := h id x hx
  obtain ⟨z, hz, l2, e2⟩ := k id y hy
  refine ⟨z, hz, Nat.le_trans l1 l2, fun e => ?_⟩
  have e3 : y.st = x.st := by omega
  rw [e2 (by omega), e1 e3]
theorem Ext.upd_new {κ : Kap} {id : Nat} (c : Conc) (h : κ id = none) : Ext κ (upd κ id c) := by
  intro j x hx
  refine ⟨x, ?_, Nat.le_refl _, fun _ => rfl⟩
  unfold upd
  split
  · rename_i e; subst e; rw [h] at hx; cases hx
  · exact hx

theorem VR.mono {I I' : Nat → Prop} {w w' : World} (hI : ∀ b, I b → I' b) (hw : ∀ b, I b → w'.heap[b]? = w.heap[b]?) {κ : Kap} {x : AV} {v : Value} (h : VR I w κ x v) :
    ∀ {κ' : Kap}, Ext κ κ' → VR I' w' κ' x v := by
  induction h with
  | any => intro κ' _; exact .any
  | bool => intro κ' _; exact .bool
  | int => intro κ' _; exact .int
  | str h => intro κ' _; exact .str h
  | nilp => intro κ' _; exact .nilp
  | ptr c hc hst hp h =>
    intro κ' he
    obtain ⟨c', hc', hle, heq⟩ := he _ _ hc
    refine .ptr c' hc' (Nat.le_trans hst hle) hp fun e => ?_
    have e1 : c'.st = c.st := by omega
    have := heq e1
    subst this
    exact h e
  | lptr b o sz us hb hsz hc h1 _ ih =>
    intro κ' _
    refine .lptr b o sz us (hI _ hb) hsz (fun j hj => ?_) h1 (fun j x hx => ih j x hx (Ext.refl _))
    exact (World.cell?_of_block (w := w) (w' := w') (a := ⟨b, o + j, none⟩) (hw _ hb)).trans (hc j hj)
  | nils => intro κ' _; exact .nils
  | slice c hc hst hl h =>
    intro κ' he
    obtain ⟨c', hc', hle, heq⟩ := he _ _ hc
    refine .slice c' hc' (Nat.le_trans hst hle) hl fun e => ?_
    have e1 : c'.st = c.st := by omega
    have := heq e1
    subst this
    exact h e
  | lit sz us hcp hm hsz hc h1 _ ih =>
    intro κ' _
    refine .lit sz us hcp hm hsz (fun hne => ?_) h1 (fun j x hx => ih j x hx (Ext.refl _))
    obtain ⟨b, o, e, hb, hcell⟩ := hc hne
    exact ⟨b, o, e, hI _ hb, fun j hj => (World.cell?_of_block (w := w) (w' := w') (a := ⟨b, o + j, none⟩) (hw _ hb)).trans (hcell j hj)⟩
  | func h1 h2 _ _ ih3 ih4 => intro κ' he; exact .func h1 h2 (fun i x hx => ih3 i x hx he) (fun i x hx => ih4 i x hx he)
  | nilf => intro κ' _; exact .nilf
  | obj c hc hv h =>
    intro κ' he
    obtain ⟨c', hc', hle, heq⟩ := he _ _ hc
    refine .obj c' hc' hv fun e => ?_
    have e1 : c'.st = c.st := by omega
    have := heq e1
    subst this
    exact h e
  | nilm => intro κ' _; exact .nilm
  | iface _ ih => intro κ' he; exact .iface (ih he)
  | nili => intro κ' _; exact .nili
  | agg h1 _ ih => intro κ' he; exact .agg h1 (fun i x hx => ih i x hx he)
  | tuple h1 _ ih => intro κ' he; exact .tuple h1 (fun i x hx => ih i x hx he)
  | sub c hc hst hl h =>
    intro κ' he
    obtain ⟨c', hc', hle, heq⟩ := he _ _ hc
    refine .sub c' hc' (Nat.le_trans hst hle) hl fun e => ?_
    have e1 : c'.st = c.st := by omega
    have := heq e1
    subst this
    exact h e
  | clit _ ih => intro κ' he; exact .clit (ih he)
  | yield c hc hv h =>
    intro κ' he
    obtain ⟨c', hc', hle, heq⟩ := he _ _ hc
    refine .yield c' hc' hv fun e => ?_
    have e1 : c'.st = c.st := by omega
    have := heq e1
    subst this
    exact h e
end Go.Proofs.Ax
/- AX, part B: abstract heaps against worlds; what a step leaves. -/
set_option linter.unusedVariables false
set_option linter.unusedSimpArgs false
namespace Go.Proofs.Ax
open Go.RowKit

/-- Abstract blocks. -/
inductive AB where
  | dead
  | row (e : TypeId) (sz : Nat) (elems : List (List AV))
  | map (entries : List (AV × AV × Nat)) (clock : Nat)
  | iterS (s : List UInt8) (pos : Nat)
  | iterM (mid since n : Nat) (cur : Option Nat) (last : Nat)
  | loopR (s : List (Nat × AV)) (n : Nat) (ps : List Nat) (assign body : Code) (st : LoopState) (pend : Option Code)
  | marks
  deriving Inhabited
abbrev AH := List AB

def AB.live : AB → Bool
  | .dead => false
  | _ => true

def hblk : Value → Option Nat
  | .slice (some a) _ _ => some a.block
  | .map (some r) => some r
  | .pointer (some a) => some a.block
  | _ => none

def BOk (I : Nat → Prop) (w : World) (κ : Kap) (id : Nat) : AB → Prop
  | .dead => True
  | .row e sz elems => ∃ c us, κ id = some c ∧ c.st = elems.length ∧ c.sz = sz ∧ w.ownsRow 0 e sz c.hdr elems.length us ∧ (∀ el ∈ elems, el.length = sz) ∧ (∀ u ∈ us, u.oneCell' = true) ∧
      ∀ j x, elems.flatten[j]? = some x → VR I w κ x (us.getD j undef)
  | .map entries clock => ∃ c r es, κ id = some c ∧ c.st = 0 ∧ c.hdr = .map (some r) ∧ w.heap[r]? = some (.map es clock) ∧ es.size = entries.length ∧
      ∀ (i : Nat) k v b, entries[i]? = some (k, v, b) → VR I w κ k (es.getD i default).key ∧ VR I w κ v (es.getD i default).val ∧ (es.getD i default).born = b
  | .iterS s pos => ∃ c r, κ id = some c ∧ c.st = 0 ∧ c.hdr = .pointer (some ⟨r, 0, none⟩) ∧ w.heap[r]? = some (.stringIter (ofL s) pos)
  | .iterM mid since n cur last => ∃ c r rm seen, κ id = some c ∧ c.st = 0 ∧ c.hdr = .pointer (some ⟨r, 0, none⟩) ∧ VR I w κ (.obj mid) (.map (some rm)) ∧ w.heap[r]? = some (.mapIter (some rm) since ⟨seen⟩ last) ∧ seen.length = n ∧ seen.Nodup ∧ (∀ b ∈ seen, b < since) ∧ (cur = none ∨ seen.getLast? = cur)
  | .loopR s n ps assign body st pend => ∃ c l r, κ id = some c ∧ c.st = 0 ∧ c.hdr = .pointer (some ⟨l, 0, none⟩) ∧ w.heap[l]? = some (.loop r) ∧ r.state = st ∧ r.pending = pend ∧ r.params.toList = ps ∧ r.assign = assign ∧ r.body = body ∧ r.tmps.size = n ∧ ∀ p ∈ s, VR I w κ p.2 (r.tmps.getD p.1 undef)
  | .marks => ∃ c r, κ id = some c ∧ c.st = 0 ∧ c.hdr = .pointer (some ⟨r, 0, none⟩) ∧ w.heap[r]? = some (.deferred (some []))

/-- Block b of the world belongs to a live abstract block. -/
def own (κ : Kap) (H : AH) (b : Nat) : Prop := ∃ (id : Nat) (B : AB) (c : Conc), H[id]? = some B ∧ B.live = true ∧ κ id = some c ∧ hblk c.hdr = some b

structure HRel (κ : Kap) (I : Nat → Prop) (H : AH) (w : World) : Prop where
  dom : ∀ id, id < H.length ↔ (κ id).isSome = true
  ok : ∀ id B, H[id]? = some B → BOk I w κ id B
  inj : ∀ id id' B B' c c' b, H[id]? = some B → B.live = true → H[id']? = some B' → B'.live = true → κ id = some c → κ id' = some c' → hblk c.hdr = some b → hblk c'.hdr = some b → id = id'
  sep : ∀ b, I b → b < w.heap.size ∧ ¬ own κ H b

/-- What a step from w to w' leaves. -/
structure Stp (κ : Kap) (I : Nat → Prop) (H : AH) (w : World) (κ' : Kap) (I' : Nat → Prop) (H' : AH) (w' : World) : Prop where
  os : w'.os = w.os
  tape : w'.tape = w.tape
  output : w'.output = w.output
  size : w.heap.size ≤ w'.heap.size
  imm : ∀ b, I b → I' b
  kept : ∀ b, b < w.heap.size → ¬ own κ H b → w'.heap[b]? = w.heap[b]?
  fresh : ∀ b, I' b → I b ∨ w.heap.size ≤ b ∨ own κ H b
  owned : ∀ b, own κ' H' b → own κ H b ∨ w.heap.size ≤ b
  ext : Ext κ κ'

theorem Stp.refl (κ : Kap) (I : Nat → Prop) (H : AH) (w : World) : Stp κ I H w κ I H w :=
  ⟨rfl, rfl, rfl, Nat.le_refl _, fun _ h => h, fun _ _ _ => rfl, fun _ h => .inl h, fun _ h => .inl h, Ext.refl _⟩

theorem Stp.trans {κ κ1 κ2 : Kap} {I I1 I2 : Nat → Prop} {H H1 H2 : AH} {w w1 w2 : World} (h : Stp κ I H w κ1 I1 H1 w1) (k : Stp κ1 I1 H1 w1 κ2 I2 H2 w2) : Stp κ I H w κ2 I2 H2 w2 := {
  os := k.os.trans h.os
  tape := k.tape.trans h.tape
  output := k.output.trans h.output
  size := Nat.le_trans h.size k.size
  imm := fun b hb => k.imm b (h.imm b hb)
  kept := fun b hb hn => by
    have h1 : ¬ own κ1 H1 b := fun ho => by
      rcases h.owned b ho with ho | ho
      · exact hn ho
      · omega
    exact (k.kept b (Nat.lt_of_lt_of_le hb h.size) h1).trans (h.kept b hb hn)
  fresh := fun b hb => by
    rcases k.fresh b hb with h1 | h1 | h1
    · exact h.fresh b h1
    · exact .inr (.inl (Nat.le_trans h.size h1))
    · rcases h.owned b h1 with h2 | h2
      · exact .inr (.inr h2)
      · exact .inr (.inl h2)
  owned := fun b hb => by
    rcases k.owned b hb with h1 | h1
    · exact h.owned b h1
    · exact .inr (Nat.le_trans h.size h1)
  ext := h.ext.trans k.ext }

theorem Stp.immHeap {κ κ' : Kap} {I I' : Nat → Prop} {H H' : AH} {w w' : World} (h : Stp κ I H w κ' I' H' w') (hr : HRel κ I H w) : ∀ b, I b → w'.heap[b]? = w.heap[b]? :=
  fun b hb => h.kept b (hr.sep b hb).1 (hr.sep b hb).2

theorem Stp.vr {κ κ' : Kap} {I I' : Nat → Prop} {H H' : AH} {w w' : World} (h : Stp κ I H w κ' I' H' w') (hr : HRel κ I H w) {x : AV} {v : Value} (hv : VR I w κ x v) : VR I' w' κ' x v :=
  hv.mono h.imm (h.immHeap hr) h.ext

theorem hblk_ownBlock {a : Option Addr} {n c : Nat} : hblk (.slice a n c) = (Value.slice a n c).ownBlock := by cases a <;> rfl

theorem BOk.mono {I I' : Nat → Prop} {w w' : World} {κ κ' : Kap} {id : Nat} {B : AB} (h : BOk I w κ id B) (hid : κ' id = κ id) (hb : ∀ c b, κ id = some c → hblk c.hdr = some b → w'.heap[b]? = w.heap[b]?)
    (hI : ∀ b, I b → I' b) (hw : ∀ b, I b → w'.heap[b]? = w.heap[b]?) (he : Ext κ κ') : BOk I' w' κ' id B := by
  cases B with
  | dead => trivial
  | row e sz elems =>
    obtain ⟨c, us, hc, h1, h2, h3, h4, h5, h6⟩ := h
    refine ⟨c, us, hid.trans hc, h1, h2, ⟨h3.1, ?_⟩, h4, h5, fun j x hx => (h6 j x hx).mono hI hw he⟩
    rcases h3.2 with hn | ⟨g, cap, cur, e1, e2, e3, e4⟩
    · exact .inl hn
    · exact .inr ⟨g, cap, cur, e1, e2, (hb c g hc (by rw [e1]; rfl)).trans e3, e4⟩
  | map entries clock =>
    obtain ⟨c, r, es, hc, h1, h2, h3, h4, h5⟩ := h
    exact ⟨c, r, es, hid.trans hc, h1, h2, (hb c r hc (by rw [h2]; rfl)).trans h3, h4, fun i k v b hi => ⟨(h5 i k v b hi).1.mono hI hw he, (h5 i k v b hi).2.1.mono hI hw he, (h5 i k v b hi).2.2⟩⟩
  | iterS s pos =>
    obtain ⟨c, r, hc, h1, h2, h3⟩ := h
    exact ⟨c, r, hid.trans hc, h1, h2, (hb c r hc (by rw [h2]; rfl)).trans h3⟩
  | iterM mid since n cur last =>
    obtain ⟨c, r, rm, seen, hc, h1, h2, h3, h4, h5⟩ := h
    exact ⟨c, r, rm, seen, hid.trans hc, h1, h2, h3.mono hI hw he, (hb c r hc (by rw [h2]; rfl)).trans h4, h5⟩
  | loopR s n ps assign body st pend =>
    obtain ⟨c, l, r, hc, h1, h2, h3, h4, h5, h6, h7, h8, h9, h10⟩ := h
    exact ⟨c, l, r, hid.trans hc, h1, h2, (hb c l hc (by rw [h2]; rfl)).trans h3, h4, h5, h6, h7, h8, h9, fun p hp => (h10 p hp).mono hI hw he⟩
  | marks =>
    obtain ⟨c, r, hc, h1, h2, h3⟩ := h
    exact ⟨c, r, hid.trans hc, h1, h2, (hb c r hc (by rw [h2]; rfl)).trans h3⟩

/-- The world's block of a live abstract block is there. -/
theorem BOk.lt {I : Nat → Prop} {w : World} {κ : Kap} {id : Nat} {B : AB} (h : BOk I w κ id B) (hl : B.live = true) {c : Conc} {b : Nat} (hc : κ id = some c) (hb : hblk c.hdr = some b) : b < w.heap.size := by
  cases B with
  | dead => cases hl
  | row e sz elems =>
    obtain ⟨c', us, hc', h1, h2, h3, h4⟩ := h
    obtain rfl : c' = c := by rw [hc] at hc'; cases hc'; rfl
    rcases h3.2 with ⟨e1, _⟩ | ⟨g, cap, cur, e1, e2, e3, e4⟩
    · rw [e1] at hb; cases hb
    · rw [e1] at hb; cases hb
      exact (Array.getElem?_eq_some_iff.1 e3).1
  | map entries clock =>
    obtain ⟨c', r, es, hc', h1, h2, h3, h4⟩ := h
    obtain rfl : c' = c := by rw [hc] at hc'; cases hc'; rfl
    rw [h2] at hb; cases hb
    exact (Array.getElem?_eq_some_iff.1 h3).1
  | iterS s pos =>
    obtain ⟨c', r, hc', h1, h2, h3⟩ := h
    obtain rfl : c' = c := by rw [hc] at hc'; cases hc'; rfl
    rw [h2] at hb; cases hb
    exact (Array.getElem?_eq_some_iff.1 h3).1
  | iterM mid since n cur last =>
    obtain ⟨c', r, rm, seen, hc', h1, h2, h3, h4, h5⟩ := h
    obtain rfl : c' = c := by rw [hc] at hc'; cases hc'; rfl
    rw [h2] at hb; cases hb
    exact (Array.getElem?_eq_some_iff.1 h4).1
  | loopR s n ps assign body st pend =>
    obtain ⟨c', l, r, hc', h1, h2, h3, h4⟩ := h
    obtain rfl : c' = c := by rw [hc] at hc'; cases hc'; rfl
    rw [h2] at hb; cases hb
    exact (Array.getElem?_eq_some_iff.1 h3).1
  | marks =>
    obtain ⟨c', r, hc', h1, h2, h3⟩ := h
    obtain rfl : c' = c := by rw [hc] at hc'; cases hc'; rfl
    rw [h2] at hb; cases hb
    exact (Array.getElem?_eq_some_iff.1 h3).1

theorem HRel.own_lt {κ : Kap} {I : Nat → Prop} {H : AH} {w : World} (h : HRel κ I H w) {b : Nat} (ho : own κ H b) : b < w.heap.size := by
  obtain ⟨id, B, c, h1, h2, h3, h4⟩ := ho
  exact (h.ok id B h1).lt h2 h3 h4

theorem HRel.new_none {κ : Kap} {I : Nat → Prop} {H : AH} {w : World} (h : HRel κ I H w) : κ H.length = none := by
  cases hk : κ H.length with
  | none => rfl
  | some c => have := (h.dom H.length).2 (by rw [hk]; rfl); omega

theorem upd_same (κ : Kap) (id : Nat) (c : Conc) : upd κ id c id = some c := by simp [upd]
theorem upd_ne (κ : Kap) {id j : Nat} (c : Conc) (h : j ≠ id) : upd κ id c j = κ j := by simp [upd, h]

/-- The world has turned in what nobody knows of alone: new blocks. -/
theorem HRel.grow {κ : Kap} {I : Nat → Prop} {H : AH} {w w' : World} (h : HRel κ I H w) (ho : w'.os = w.os) (ht : w'.tape = w.tape) (hp : w'.output = w.output) (hs : w.heap.size ≤ w'.heap.size)
    (hk : ∀ b, b < w.heap.size → w'.heap[b]? = w.heap[b]?) : HRel κ I H w' ∧ Stp κ I H w κ I H w' := by
  have hI : ∀ b, I b → w'.heap[b]? = w.heap[b]? := fun b hb => hk b (h.sep b hb).1
  refine ⟨⟨h.dom, fun id B hB => ?_, h.inj, fun b hb => ⟨Nat.lt_of_lt_of_le (h.sep b hb).1 hs, (h.sep b hb).2⟩⟩, ⟨ho, ht, hp, hs, fun _ x => x, fun b hb _ => hk b hb, fun _ x => .inl x, fun _ x => .inl x, Ext.refl _⟩⟩
  by_cases hl : B.live = true
  · exact (h.ok id B hB).mono rfl (fun c b hc hb => hk b ((h.ok id B hB).lt hl hc hb)) (fun _ x => x) hI (Ext.refl _)
  · cases B <;> first | trivial | (simp [AB.live] at hl)

/-- A new abstract block, in new memory (or none). -/
theorem HRel.push {κ : Kap} {I : Nat → Prop} {H : AH} {w w' : World} {B : AB} {c : Conc} (h : HRel κ I H w) (ho : w'.os = w.os) (ht : w'.tape = w.tape) (hp : w'.output = w.output) (hs : w.heap.size ≤ w'.heap.size)
    (hk : ∀ b, b < w.heap.size → w'.heap[b]? = w.heap[b]?) (hnew : ∀ b, hblk c.hdr = some b → w.heap.size ≤ b)
    (hB : BOk I w' (upd κ H.length c) H.length B) : HRel (upd κ H.length c) I (H ++ [B]) w' ∧ Stp κ I H w (upd κ H.length c) I (H ++ [B]) w' := by
  obtain ⟨hg, hst⟩ := h.grow ho ht hp hs hk
  have hx := Ext.upd_new c h.new_none
  have hI : ∀ b, I b → w'.heap[b]? = w.heap[b]? := fun b hb => hk b (h.sep b hb).1
  have hown : ∀ b, own (upd κ H.length c) (H ++ [B]) b → own κ H b ∨ w.heap.size ≤ b := by
    rintro b ⟨id, B', c', h1, h2, h3, h4⟩
    by_cases e : id = H.length
    · subst e
      rw [upd_same] at h3
      cases h3
      exact .inr (hnew b h4)
    · rw [upd_ne _ _ e] at h3
      refine .inl ⟨id, B', c', ?_, h2, h3, h4⟩
      have : id < H.length := (h.dom id).2 (by rw [h3]; rfl)
      rwa [List.getElem?_append_left this] at h1
  refine ⟨⟨fun id => ?_, fun id B' hB' => ?_, ?_, fun b hb => ⟨(hg.sep b hb).1, fun hx' => ?_⟩⟩, ⟨ho, ht, hp, hs, fun _ x => x, fun b hb _ => hk b hb, fun _ x => .inl x, hown, hx⟩⟩
  · by_cases e : id = H.length
    · subst e; simp [upd_same]
    · rw [upd_ne _ _ e, ← h.dom id]
      simp
      omega
  · by_cases e : id = H.length
    · subst e
      have : B' = B := by simpa using hB'.symm
      subst this
      exact hB
    · have hlt : id < H.length := by
        rcases Nat.lt_or_ge id H.length with hlt | hge
        · exact hlt
        · have := (List.getElem?_eq_some_iff.1 hB').1
          simp at this
          omega
      rw [List.getElem?_append_left hlt] at hB'
      exact (hg.ok id B' hB').mono (upd_ne _ _ e) (fun _ _ _ _ => rfl) (fun _ x => x) (fun _ _ => rfl) hx
  · intro id id' B1 B2 c1 c2 b h1 l1 h2 l2 k1 k2 b1 b2
    by_cases e : id = H.length <;> by_cases e' : id' = H.length
    · omega
    · subst e
      rw [upd_same] at k1; cases k1
      rw [upd_ne _ _ e'] at k2
      have hlt : id' < H.length := (h.dom id').2 (by rw [k2]; rfl)
      rw [List.getElem?_append_left hlt] at h2
      have := (h.ok id' B2 h2).lt l2 k2 b2
      have := hnew b b1
      omega
    · subst e'
      rw [upd_same] at k2; cases k2
      rw [upd_ne _ _ e] at k1
      have hlt : id < H.length := (h.dom id).2 (by rw [k1]; rfl)
      rw [List.getElem?_append_left hlt] at h1
      have := (h.ok id B1 h1).lt l1 k1 b1
      have := hnew b b2
      omega
    · rw [upd_ne _ _ e] at k1
      rw [upd_ne _ _ e'] at k2
      have hlt : id < H.length := (h.dom id).2 (by rw [k1]; rfl)
      have hlt' : id' < H.length := (h.dom id').2 (by rw [k2]; rfl)
      rw [List.getElem?_append_left hlt] at h1
      rw [List.getElem?_append_left hlt'] at h2
      exact h.inj id id' B1 B2 c1 c2 b h1 l1 h2 l2 k1 k2 b1 b2
  · rcases hown b hx' with h1 | h1
    · exact (h.sep b hb).2 h1
    · have := (h.sep b hb).1
      omega

/-- An abstract block turns; the world turns in its block, and in new ones. -/
theorem HRel.write {κ : Kap} {I : Nat → Prop} {H : AH} {w w' : World} {id : Nat} {B0 B : AB} {c0 c : Conc} (h : HRel κ I H w) (hB0 : H[id]? = some B0) (hl0 : B0.live = true) (hc0 : κ id = some c0)
    (ho : w'.os = w.os) (ht : w'.tape = w.tape) (hp : w'.output = w.output) (hs : w.heap.size ≤ w'.heap.size)
    (hk : ∀ b, b < w.heap.size → hblk c0.hdr ≠ some b → w'.heap[b]? = w.heap[b]?) (hst : c0.st ≤ c.st) (hst' : c.st = c0.st → c = c0)
    (hnew : ∀ b, hblk c.hdr = some b → w.heap.size ≤ b ∨ hblk c0.hdr = some b)
    (hB : BOk I w' (upd κ id c) id B) : HRel (upd κ id c) I (H.set id B) w' ∧ Stp κ I H w (upd κ id c) I (H.set id B) w' := by
  have hlt : id < H.length := (List.getElem?_eq_some_iff.1 hB0).1
  have hx : Ext κ (upd κ id c) := by
    intro j x hx
    by_cases e : j = id
    · subst e
      rw [hc0] at hx; cases hx
      exact ⟨c, upd_same _ _ _, hst, hst'⟩
    · exact ⟨x, by rw [upd_ne _ _ e]; exact hx, Nat.le_refl _, fun _ => rfl⟩
  have hself : ∀ b, hblk c0.hdr = some b → own κ H b := fun b hb => ⟨id, B0, c0, hB0, hl0, hc0, hb⟩
  have hI : ∀ b, I b → w'.heap[b]? = w.heap[b]? := fun b hb => hk b (h.sep b hb).1 (fun e => (h.sep b hb).2 (hself b e))
  have hown : ∀ b, own (upd κ id c) (H.set id B) b → own κ H b ∨ w.heap.size ≤ b := by
    rintro b ⟨j, B', c', h1, h2, h3, h4⟩
    by_cases e : j = id
    · subst e
      rw [upd_same] at h3; cases h3
      rcases hnew b h4 with h5 | h5
      · exact .inr h5
      · exact .inl (hself b h5)
    · rw [upd_ne _ _ e] at h3
      rw [List.getElem?_set_ne (fun x => e x.symm)] at h1
      exact .inl ⟨j, B', c', h1, h2, h3, h4⟩
  refine ⟨⟨fun j => ?_, fun j B' hB' => ?_, ?_, fun b hb => ⟨Nat.lt_of_lt_of_le (h.sep b hb).1 hs, fun hx' => ?_⟩⟩,
    ⟨ho, ht, hp, hs, fun _ x => x, fun b hb hn => hk b hb (fun e => hn (hself b e)), fun _ x => .inl x, hown, hx⟩⟩
  · rw [List.length_set]
    by_cases e : j = id
    · subst e; simp [upd_same, hlt]
    · rw [upd_ne _ _ e]; exact h.dom j
  · by_cases e : j = id
    · subst e
      rw [List.getElem?_set_self hlt] at hB'
      cases hB'
      exact hB
    · rw [List.getElem?_set_ne (fun x => e x.symm)] at hB'
      by_cases hl : B'.live = true
      · refine (h.ok j B' hB').mono (upd_ne _ _ e) (fun c' b hc' hb => ?_) (fun _ x => x) hI hx
        refine hk b ((h.ok j B' hB').lt hl hc' hb) fun e' => ?_
        exact e (h.inj j id B' B0 c' c0 b hB' hl hB0 hl0 hc' hc0 hb e')
      · cases B' <;> first | trivial | (simp [AB.live] at hl)
  · intro j j' B1 B2 c1 c2 b h1 l1 h2 l2 k1 k2 b1 b2
    by_cases e : j = id <;> by_cases e' : j' = id
    · omega
    · subst e
      rw [upd_same] at k1; cases k1
      rw [upd_ne _ _ e'] at k2
      rw [List.getElem?_set_ne (fun x => e' x.symm)] at h2
      rcases hnew b b1 with h5 | h5
      · have := (h.ok j' B2 h2).lt l2 k2 b2
        omega
      · exact h.inj j j' B0 B2 c0 c2 b hB0 hl0 h2 l2 hc0 k2 h5 b2
    · subst e'
      rw [upd_same] at k2; cases k2
      rw [upd_ne _ _ e] at k1
      rw [List.getElem?_set_ne (fun x => e x.symm)] at h1
      rcases hnew b b2 with h5 | h5
      · have := (h.ok j B1 h1).lt l1 k1 b1
        omega
      · exact h.inj j j' B1 B0 c1 c0 b h1 l1 hB0 hl0 k1 hc0 b1 h5
    · rw [upd_ne _ _ e] at k1
      rw [upd_ne _ _ e'] at k2
      rw [List.getElem?_set_ne (fun x => e x.symm)] at h1
      rw [List.getElem?_set_ne (fun x => e' x.symm)] at h2
      exact h.inj j j' B1 B2 c1 c2 b h1 l1 h2 l2 k1 k2 b1 b2
  · rcases hown b hx' with h1 | h1
    · exact (h.sep b hb).2 h1
    · have := (h.sep b hb).1
      omega
end Go.Proofs.Ax
/- AX, part C: other numbers for blocks; dropping and freezing blocks. -/
set_option linter.unusedVariables false
set_option linter.unusedSimpArgs false
namespace Go.Proofs.Ax
open Go.RowKit

mutual
/-- Other numbers for blocks; what has none becomes 'any'. -/
def AV.ren (σ : Nat → Option Nat) : AV → AV
  | .ptr id k off st => match σ id with | some j => .ptr j k off st | none => .any
  | .slice id st => match σ id with | some j => .slice j st | none => .any
  | .obj id => match σ id with | some j => .obj j | none => .any
  | .sub id st lo len => match σ id with | some j => .sub j st lo len | none => .any
  | .yield id => match σ id with | some j => .yield j | none => .any
  | .clit e => .clit e
  | .func fn first captured => .func fn (AV.rens σ first) (AV.rens σ captured)
  | .iface t v => .iface t (AV.ren σ v)
  | .agg cs => .agg (AV.rens σ cs)
  | .tuple cs => .tuple (AV.rens σ cs)
  | .any => .any
  | .bool b => .bool b
  | .int k n => .int k n
  | .str s => .str s
  | .nilp => .nilp
  | .lptr e k o => .lptr e k o
  | .nils => .nils
  | .lit e => .lit e
  | .nilf => .nilf
  | .nilm => .nilm
  | .nili => .nili
def AV.rens (σ : Nat → Option Nat) : List AV → List AV
  | [] => []
  | x :: l => AV.ren σ x :: AV.rens σ l
end

theorem AV.rens_eq (σ : Nat → Option Nat) (l : List AV) : AV.rens σ l = l.map (AV.ren σ) := by
  induction l with
  | nil => rfl
  | cons x l ih => simp [AV.rens, ih]

def AB.ren (σ : Nat → Option Nat) : AB → AB
  | .dead => .dead
  | .row e sz elems => .row e sz (elems.map (AV.rens σ))
  | .map entries clock => .map (entries.map fun x => (AV.ren σ x.1, AV.ren σ x.2.1, x.2.2)) clock
  | .iterS s pos => .iterS s pos
  | .iterM mid since n cur last => match σ mid with | some j => .iterM j since n cur last | none => .dead
  | .loopR s n ps assign body st pend => .loopR (s.map fun p => (p.1, AV.ren σ p.2)) n ps assign body st pend
  | .marks => .marks

theorem VR.ren {I : Nat → Prop} {w : World} {κ : Kap} {x : AV} {v : Value} (h : VR I w κ x v) : ∀ {κ2 : Kap} {σ : Nat → Option Nat}, (∀ id j, σ id = some j → κ2 j = κ id) → VR I w κ2 (x.ren σ) v := by
  induction h with
  | any => intro _ _ _; exact .any
  | bool => intro _ _ _; exact .bool
  | int => intro _ _ _; exact .int
  | str h => intro _ _ _; exact .str h
  | nilp => intro _ _ _; exact .nilp
  | @ptr κ id k off st v c hc hst hp h =>
    intro κ2 σ hσ
    simp only [AV.ren]
    split
    · rename_i j hj
      exact .ptr c ((hσ _ _ hj).trans hc) hst hp h
    · exact .any
  | lptr b o sz us hb hsz hc h1 h _ => intro _ _ _; exact .lptr b o sz us hb hsz hc h1 h
  | nils => intro _ _ _; exact .nils
  | slice c hc hst hl h =>
    intro κ2 σ hσ
    simp only [AV.ren]
    split
    · rename_i j hj
      exact .slice c ((hσ _ _ hj).trans hc) hst hl h
    · exact .any
  | lit sz us hcp hm hsz hc h1 h _ => intro _ _ _; exact .lit sz us hcp hm hsz hc h1 h
  | func h1 h2 _ _ ih3 ih4 =>
    intro κ2 σ hσ
    simp only [AV.ren, AV.rens_eq]
    refine .func (by simpa using h1) (by simpa using h2) (fun i x hx => ?_) (fun i x hx => ?_)
    · rw [List.getElem?_map] at hx
      obtain ⟨y, hy, rfl⟩ := Option.map_eq_some_iff.1 hx
      exact ih3 i y hy hσ
    · rw [List.getElem?_map] at hx
      obtain ⟨y, hy, rfl⟩ := Option.map_eq_some_iff.1 hx
      exact ih4 i y hy hσ
  | nilf => intro _ _ _; exact .nilf
  | obj c hc hv h =>
    intro κ2 σ hσ
    simp only [AV.ren]
    split
    · rename_i j hj
      exact .obj c ((hσ _ _ hj).trans hc) hv h
    · exact .any
  | sub c hc hst hl h =>
    intro κ2 σ hσ
    simp only [AV.ren]
    split
    · rename_i j hj
      exact .sub c ((hσ _ _ hj).trans hc) hst hl h
    · exact .any
  | yield c hc hv h =>
    intro κ2 σ hσ
    simp only [AV.ren]
    split
    · rename_i j hj
      exact .yield c ((hσ _ _ hj).trans hc) hv h
    · exact .any
  | clit _ ih => intro κ2 σ hσ; exact .clit (ih hσ)
  | nilm => intro _ _ _; exact .nilm
  | iface _ ih => intro κ2 σ hσ; simp only [AV.ren]; exact .iface (ih hσ)
  | nili => intro _ _ _; exact .nili
  | agg h1 _ ih =>
    intro κ2 σ hσ
    simp only [AV.ren, AV.rens_eq]
    refine .agg (by simpa using h1) (fun i x hx => ?_)
    rw [List.getElem?_map] at hx
    obtain ⟨y, hy, rfl⟩ := Option.map_eq_some_iff.1 hx
    exact ih i y hy hσ
  | tuple h1 _ ih =>
    intro κ2 σ hσ
    simp only [AV.ren, AV.rens_eq]
    refine .tuple (by simpa using h1) (fun i x hx => ?_)
    rw [List.getElem?_map] at hx
    obtain ⟨y, hy, rfl⟩ := Option.map_eq_some_iff.1 hx
    exact ih i y hy hσ

theorem flatten_rens (σ : Nat → Option Nat) (elems : List (List AV)) : (elems.map (AV.rens σ)).flatten = elems.flatten.map (AV.ren σ) := by
  induction elems with
  | nil => rfl
  | cons e l ih => simp [AV.rens_eq, ih]

theorem BOk.ren {I : Nat → Prop} {w : World} {κ κ2 : Kap} {σ : Nat → Option Nat} {id j : Nat} {B : AB} (h : BOk I w κ id B) (hσ : ∀ id j, σ id = some j → κ2 j = κ id) (hj : κ2 j = κ id) : BOk I w κ2 j (B.ren σ) := by
  cases B with
  | dead => trivial
  | row e sz elems =>
    obtain ⟨c, us, hc, h1, h2, h3, h4, h5, h6⟩ := h
    refine ⟨c, us, hj.trans hc, by simpa using h1, h2, by simpa using h3, ?_, h5, fun i x hx => ?_⟩
    · intro el hel
      obtain ⟨y, hy, rfl⟩ := List.mem_map.1 hel
      simpa [AV.rens_eq] using h4 y hy
    · rw [flatten_rens, List.getElem?_map] at hx
      obtain ⟨y, hy, rfl⟩ := Option.map_eq_some_iff.1 hx
      exact (h6 i y hy).ren hσ
  | map entries clock =>
    obtain ⟨c, r, es, hc, h1, h2, h3, h4, h5⟩ := h
    refine ⟨c, r, es, hj.trans hc, h1, h2, h3, by simpa using h4, fun i k v b hi => ?_⟩
    rw [List.getElem?_map] at hi
    obtain ⟨⟨k0, v0, b0⟩, hy, he⟩ := Option.map_eq_some_iff.1 hi
    cases he
    obtain ⟨a1, a2, a3⟩ := h5 i k0 v0 _ hy
    exact ⟨a1.ren hσ, a2.ren hσ, a3⟩
  | iterS s pos =>
    obtain ⟨c, r, hc, h1, h2, h3⟩ := h
    exact ⟨c, r, hj.trans hc, h1, h2, h3⟩
  | iterM mid since n cur last =>
    obtain ⟨c, r, rm, seen, hc, h1, h2, h3, h4⟩ := h
    simp only [AB.ren]
    split
    · rename_i m hm
      have := h3.ren (κ2 := κ2) hσ
      simp only [AV.ren, hm] at this
      exact ⟨c, r, rm, seen, hj.trans hc, h1, h2, this, h4⟩
    · trivial
  | loopR s n ps assign body st pend =>
    obtain ⟨c, l, r, hc, h1, h2, h3, h4, h5, h6, h7, h8, h9, h10⟩ := h
    refine ⟨c, l, r, hj.trans hc, h1, h2, h3, h4, h5, h6, h7, h8, h9, fun p hp => ?_⟩
    obtain ⟨q, hq, rfl⟩ := List.mem_map.1 hp
    exact (h10 q hq).ren hσ
  | marks =>
    obtain ⟨c, r, hc, h1, h2, h3⟩ := h
    exact ⟨c, r, hj.trans hc, h1, h2, h3⟩

/-- The kept blocks: the first n, and those of a list. -/
def keepT (n : Nat) (xs : List Nat) : List Nat := List.range n ++ xs
/-- A block's new number among those kept. -/
def posIn (xs : List Nat) (n id : Nat) : Option Nat :=
  match xs with
  | [] => none
  | x :: r => if id = x then some n else posIn r (n + 1) id
def keepS (n : Nat) (xs : List Nat) (id : Nat) : Option Nat := if id < n then some id else posIn xs n id

theorem posIn_spec {xs : List Nat} : ∀ {n id j : Nat}, posIn xs n id = some j → n ≤ j ∧ xs[j - n]? = some id := by
  induction xs with
  | nil => intro n id j h; cases h
  | cons x r ih =>
    intro n id j h
    simp only [posIn] at h
    split at h
    · cases h
      rename_i e
      subst e
      exact ⟨Nat.le_refl _, by simp⟩
    · obtain ⟨h1, h2⟩ := ih h
      refine ⟨by omega, ?_⟩
      have : j - n = (j - (n + 1)) + 1 := by omega
      rw [this]
      simpa using h2

/-- What is kept of a heap. -/
def AH.keep (H : AH) (n : Nat) (xs : List Nat) : AH := (H.take n).map (AB.ren (keepS n xs)) ++ xs.map fun id => (H.getD id .dead).ren (keepS n xs)
def kapKeep (κ : Kap) (n : Nat) (xs : List Nat) : Kap := fun j => if j < n then κ j else (xs[j - n]?).bind κ

theorem kapKeep_spec (κ : Kap) (n : Nat) (xs : List Nat) (id j : Nat) (h : keepS n xs id = some j) : kapKeep κ n xs j = κ id := by
  unfold keepS at h
  unfold kapKeep
  split at h
  · cases h
    rename_i hlt
    simp [hlt]
  · obtain ⟨h1, h2⟩ := posIn_spec h
    rw [if_neg (by omega), h2]
    rfl

theorem HRel.keep {κ : Kap} {I : Nat → Prop} {H : AH} {w : World} (h : HRel κ I H w) (n : Nat) (xs : List Nat) (hn : n ≤ H.length) (hxs : ∀ x ∈ xs, n ≤ x ∧ x < H.length) (hnd : xs.Nodup) :
    HRel (kapKeep κ n xs) I (H.keep n xs) w := by
  have hlen : (H.keep n xs).length = n + xs.length := by simp [AH.keep, Nat.min_eq_left hn]
  -- the old number of a new one
  have old : ∀ j B, (H.keep n xs)[j]? = some B → ∃ id B0, H[id]? = some B0 ∧ B = B0.ren (keepS n xs) ∧ kapKeep κ n xs j = κ id ∧ (∀ j' id', (H.keep n xs)[j']? ≠ none → kapKeep κ n xs j' = κ id' → True) ∧ ((j < n ∧ id = j) ∨ (n ≤ j ∧ xs[j - n]? = some id)) := by
    intro j B hB
    by_cases hj : j < n
    · have h1 : (H.keep n xs)[j]? = (H[j]?).map (AB.ren (keepS n xs)) := by
        unfold AH.keep
        rw [List.getElem?_append_left (by simp; omega), List.getElem?_map, List.getElem?_take]
        simp [hj]
      rw [h1] at hB
      obtain ⟨B0, hB0, rfl⟩ := Option.map_eq_some_iff.1 hB
      exact ⟨j, B0, hB0, rfl, by simp [kapKeep, hj], fun _ _ _ _ => trivial, .inl ⟨hj, rfl⟩⟩
    · have h1 : (H.keep n xs)[j]? = (xs[j - n]?).map fun id => (H.getD id .dead).ren (keepS n xs) := by
        unfold AH.keep
        rw [List.getElem?_append_right (by simp; omega), List.getElem?_map]
        simp [Nat.min_eq_left hn]
      rw [h1] at hB
      obtain ⟨id, hid, rfl⟩ := Option.map_eq_some_iff.1 hB
      have hlt := (hxs id (List.mem_of_getElem? hid)).2
      refine ⟨id, H[id], List.getElem?_eq_getElem hlt, ?_, ?_, fun _ _ _ _ => trivial, .inr ⟨by omega, hid⟩⟩
      · simp [List.getD, List.getElem?_eq_getElem hlt]
      · simp only [kapKeep, if_neg hj, hid]
        rfl
  have live : ∀ B : AB, (B.ren (keepS n xs)).live = true → B.live = true := by
    intro B hB
    cases B <;> first | rfl | (simp [AB.ren, AB.live] at hB)
  have hinj : ∀ j j' id id', ((j < n ∧ id = j) ∨ (n ≤ j ∧ xs[j - n]? = some id)) → ((j' < n ∧ id' = j') ∨ (n ≤ j' ∧ xs[j' - n]? = some id')) → id = id' → j = j' := by
    intro j j' id id' h1 h2 e
    rcases h1 with ⟨a1, a2⟩ | ⟨a1, a2⟩ <;> rcases h2 with ⟨b1, b2⟩ | ⟨b1, b2⟩
    · omega
    · have := (hxs id' (List.mem_of_getElem? b2)).1
      omega
    · have := (hxs id (List.mem_of_getElem? a2)).1
      omega
    · subst e
      have l1 := (List.getElem?_eq_some_iff.1 a2).1
      have l2 := (List.getElem?_eq_some_iff.1 b2).1
      have := (List.getElem?_inj l1 hnd).1 (a2.trans b2.symm)
      omega
  have hown : ∀ b, own (kapKeep κ n xs) (H.keep n xs) b → own κ H b := by
    rintro b ⟨j, B, c, h1, h2, h3, h4⟩
    obtain ⟨id, B0, hB0, rfl, hk, _, _⟩ := old j B h1
    exact ⟨id, B0, c, hB0, live _ h2, hk ▸ h3, h4⟩
  refine ⟨fun j => ?_, fun j B hB => ?_, ?_, fun b hb => ⟨(h.sep b hb).1, fun ho => (h.sep b hb).2 (hown b ho)⟩⟩
  · rw [hlen]
    unfold kapKeep
    by_cases hj : j < n
    · rw [if_pos hj, ← h.dom j]
      omega
    · rw [if_neg hj]
      constructor
      · intro hlt
        have h1 : j - n < xs.length := by omega
        rw [List.getElem?_eq_getElem h1]
        exact (h.dom _).1 (hxs _ (List.getElem_mem h1)).2
      · intro hs
        rcases Nat.lt_or_ge (j - n) xs.length with h1 | h1
        · omega
        · rw [List.getElem?_eq_none h1] at hs
          cases hs
  · obtain ⟨id, B0, hB0, rfl, hk, _, _⟩ := old j B hB
    exact (h.ok id B0 hB0).ren (kapKeep_spec κ n xs) hk
  · intro j j' B B' c c' b h1 l1 h2 l2 k1 k2 b1 b2
    obtain ⟨id, B0, hB0, rfl, hk, _, p1⟩ := old j B h1
    obtain ⟨id', B0', hB0', rfl, hk', _, p2⟩ := old j' B' h2
    have := h.inj id id' B0 B0' c c' b hB0 (live _ l1) hB0' (live _ l2) (hk ▸ k1) (hk' ▸ k2) b1 b2
    exact hinj j j' id id' p1 p2 this

theorem Stp.keep {κ0 κ : Kap} {I0 I : Nat → Prop} {H0 H : AH} {w0 w : World} (h : Stp κ0 I0 H0 w0 κ I H w) (hr0 : HRel κ0 I0 H0 w0) (n : Nat) (xs : List Nat) (hn : n ≤ H.length) (hn0 : H0.length ≤ n) (hxs : ∀ x ∈ xs, n ≤ x ∧ x < H.length) :
    Stp κ0 I0 H0 w0 (kapKeep κ n xs) I (H.keep n xs) w := {
  os := h.os
  tape := h.tape
  output := h.output
  size := h.size
  imm := h.imm
  kept := h.kept
  fresh := h.fresh
  owned := by
    rintro b ⟨j, B, c, h1, h2, h3, h4⟩
    refine h.owned b ?_
    by_cases hj : j < n
    · have e : (H.keep n xs)[j]? = (H[j]?).map (AB.ren (keepS n xs)) := by
        unfold AH.keep
        rw [List.getElem?_append_left (by simp; omega), List.getElem?_map, List.getElem?_take]
        simp [hj]
      rw [e] at h1
      obtain ⟨B0, hB0, rfl⟩ := Option.map_eq_some_iff.1 h1
      refine ⟨j, B0, c, hB0, ?_, by simpa [kapKeep, hj] using h3, h4⟩
      cases B0 <;> first | rfl | (simp [AB.ren, AB.live] at h2)
    · have e : (H.keep n xs)[j]? = (xs[j - n]?).map fun id => (H.getD id .dead).ren (keepS n xs) := by
        unfold AH.keep
        rw [List.getElem?_append_right (by simp; omega), List.getElem?_map]
        simp [Nat.min_eq_left hn]
      rw [e] at h1
      obtain ⟨id, hid, rfl⟩ := Option.map_eq_some_iff.1 h1
      have hlt := (hxs id (List.mem_of_getElem? hid)).2
      have hg : H.getD id .dead = H[id] := by simp [List.getD, List.getElem?_eq_getElem hlt]
      rw [hg] at h2
      refine ⟨id, H[id], c, List.getElem?_eq_getElem hlt, ?_, by simpa [kapKeep, hj, hid] using h3, h4⟩
      cases hB : H[id] <;> rw [hB] at h2 <;> first | rfl | (simp [AB.ren, AB.live] at h2)
  ext := by
    intro id c hc
    obtain ⟨c', hc', h1, h2⟩ := h.ext id c hc
    have hlt : id < H0.length := (hr0.dom id).2 (by rw [hc]; rfl)
    exact ⟨c', by simp [kapKeep, show id < n by omega, hc'], h1, h2⟩ }

/-- Freezing: a row of the call's own becomes what nobody writes to. -/
def frzV (elems : List (List AV)) : AV := .lit (elems.map (AV.rens fun _ => none))
mutual
def AV.frz (id st : Nat) (x : AV) : AV → AV
  | .slice i s => if i = id ∧ s = st then x else .slice i s
  | .iface t v => .iface t (AV.frz id st x v)
  | .agg cs => .agg (AV.frzs id st x cs)
  | .tuple cs => .tuple (AV.frzs id st x cs)
  | .any => .any
  | .bool b => .bool b
  | .int k n => .int k n
  | .str s => .str s
  | .nilp => .nilp
  | .ptr a b c d => .ptr a b c d
  | .lptr e k o => .lptr e k o
  | .nils => .nils
  | .lit e => .lit e
  | .func f a b => .func f a b
  | .nilf => .nilf
  | .obj i => .obj i
  | .sub a b c d => .sub a b c d
  | .yield a => .yield a
  | .clit e => .clit e
  | .nilm => .nilm
  | .nili => .nili
def AV.frzs (id st : Nat) (x : AV) : List AV → List AV
  | [] => []
  | y :: l => AV.frz id st x y :: AV.frzs id st x l
end
theorem AV.frzs_eq (id st : Nat) (x : AV) (l : List AV) : AV.frzs id st x l = l.map (AV.frz id st x) := by
  induction l with
  | nil => rfl
  | cons y l ih => simp [AV.frzs, ih]

theorem VR.frz {I : Nat → Prop} {w : World} {κ : Kap} {y : AV} {v : Value} (h : VR I w κ y v) {κ1 : Kap} {id st : Nat} {x : AV} {c0 : Conc} (hc0 : κ1 id = some c0) (hst : c0.st = st) (hx : VR I w κ1 x c0.hdr) (e : κ = κ1) : VR I w κ1 (AV.frz id st x y) v := by
  induction h with
  | any => exact .any
  | bool => exact .bool
  | int => exact .int
  | str h => exact .str h
  | nilp => exact .nilp
  | ptr c hc hst hp h => subst e; exact .ptr c hc hst hp h
  | lptr b o sz us hb hsz hc h1 h _ => exact .lptr b o sz us hb hsz hc h1 h
  | nils => exact .nils
  | @slice κ i s v c hc hs hl h =>
    subst e
    simp only [AV.frz]
    split
    · rename_i hh
      obtain ⟨rfl, rfl⟩ := hh
      rw [hc0] at hc; cases hc
      rw [h hst]
      exact hx
    · exact .slice c hc hs hl h
  | lit sz us hcp hm hsz hc h1 h _ => exact .lit sz us hcp hm hsz hc h1 h
  | func h1 h2 h3 h4 _ _ => subst e; exact .func h1 h2 h3 h4
  | nilf => exact .nilf
  | obj c hc hv h => subst e; exact .obj c hc hv h
  | sub c hc hst hl h => subst e; exact .sub c hc hst hl h
  | yield c hc hv h => subst e; exact .yield c hc hv h
  | clit _ ih => exact .clit (ih e)
  | nilm => exact .nilm
  | iface _ ih => simp only [AV.frz]; exact .iface (ih e)
  | nili => exact .nili
  | agg h1 _ ih =>
    simp only [AV.frz, AV.frzs_eq]
    refine .agg (by simpa using h1) (fun i x hx => ?_)
    rw [List.getElem?_map] at hx
    obtain ⟨y, hy, rfl⟩ := Option.map_eq_some_iff.1 hx
    exact ih i y hy e
  | tuple h1 _ ih =>
    simp only [AV.frz, AV.frzs_eq]
    refine .tuple (by simpa using h1) (fun i x hx => ?_)
    rw [List.getElem?_map] at hx
    obtain ⟨y, hy, rfl⟩ := Option.map_eq_some_iff.1 hx
    exact ih i y hy e
end Go.Proofs.Ax
/- AX, part D: frames; the judgements on code and calls; rules of control. -/
set_option linter.unusedVariables false
set_option linter.unusedSimpArgs false
namespace Go.Proofs.Ax
open Go.RowKit

/-- A deferred call: the function, what it captured, its arguments; or the mark of a loop over a function, by its block. -/
structure ADef where
  fn : Fn
  cap : List AV
  args : List AV
  mark : Bool := false

/-- An abstract frame: what is known of slots (the newest ahead), how many slots there are, what is deferred. -/
structure Fr where
  s : List (Nat × AV)
  n : Nat
  d : List ADef

def Fr.put (fr : Fr) (dst : Option Nat) (v : AV) : Fr :=
  match dst with
  | some d => { fr with s := (d, v) :: fr.s }
  | none => fr
def Fr.get (fr : Fr) (i : Nat) : AV := (fr.s.lookup i).getD .any

def VRs (I : Nat → Prop) (w : World) (κ : Kap) (xs : List AV) (us : List Value) : Prop := us.length = xs.length ∧ ∀ i x, xs[i]? = some x → VR I w κ x (us.getD i undef)

theorem VRs.imp {I I' : Nat → Prop} {w w' : World} {κ κ' : Kap} {xs : List AV} {us : List Value} (h : VRs I w κ xs us) (hv : ∀ x v, VR I w κ x v → VR I' w' κ' x v) : VRs I' w' κ' xs us :=
  ⟨h.1, fun i x hx => hv _ _ (h.2 i x hx)⟩
theorem VRs.nil {I : Nat → Prop} {w : World} {κ : Kap} : VRs I w κ [] [] := ⟨rfl, fun i x hx => by simp at hx⟩
theorem VRs.cons {I : Nat → Prop} {w : World} {κ : Kap} {x : AV} {xs : List AV} {v : Value} {us : List Value} (h : VR I w κ x v) (hs : VRs I w κ xs us) : VRs I w κ (x :: xs) (v :: us) :=
  ⟨by simp [hs.1], fun i y hy => by
    cases i with
    | zero => simp at hy; subst hy; exact h
    | succ i => exact hs.2 i y (by simpa using hy)⟩
theorem VRs.app {I : Nat → Prop} {w : World} {κ : Kap} {xs ys : List AV} {us vs : List Value} (h : VRs I w κ xs us) (k : VRs I w κ ys vs) : VRs I w κ (xs ++ ys) (us ++ vs) := by
  refine ⟨by simp [h.1, k.1], fun i x hx => ?_⟩
  by_cases hi : i < xs.length
  · rw [List.getElem?_append_left hi] at hx
    have := h.2 i x hx
    simpa [List.getD, List.getElem?_append_left (show i < us.length by rw [h.1]; exact hi)] using this
  · rw [List.getElem?_append_right (by omega)] at hx
    have := k.2 _ x hx
    simpa [List.getD, List.getElem?_append_right (show us.length ≤ i by rw [h.1]; omega), h.1] using this

structure DRel (I : Nat → Prop) (w : World) (κ : Kap) (x : ADef) (d : Deferred) : Prop where
  tgt : ∃ us : List Value, (match x.mark with | false => d.target = .fn x.fn ⟨us⟩ | true => ∃ r, us = [.pointer (some ⟨r, 0, none⟩)] ∧ d.target = .collected r) ∧ VRs I w κ x.cap us
  args : VRs I w κ x.args d.args.toList

structure FRel (I : Nat → Prop) (w : World) (κ : Kap) (fr : Fr) (a : Act) : Prop where
  size : a.tmps.size = fr.n
  slot : ∀ i x, fr.s.lookup i = some x → VR I w κ x (a.tmps.getD i undef)
  dlen : a.defers.length = fr.d.length
  defs : ∀ i x, fr.d[i]? = some x → DRel I w κ x (a.defers.getD i default)

theorem FRel.imp {I I' : Nat → Prop} {w w' : World} {κ κ' : Kap} {fr : Fr} {a : Act} (h : FRel I w κ fr a) (hv : ∀ x v, VR I w κ x v → VR I' w' κ' x v) : FRel I' w' κ' fr a :=
  ⟨h.size, fun i x hx => hv _ _ (h.slot i x hx), h.dlen, fun i x hx => by
    obtain ⟨⟨us, h1, h2⟩, h3⟩ := h.defs i x hx
    exact ⟨⟨us, h1, h2.imp hv⟩, h3.imp hv⟩⟩

theorem FRel.put {I : Nat → Prop} {w : World} {κ : Kap} {fr : Fr} {a : Act} (h : FRel I w κ fr a) {dst : Option Nat} {x : AV} {v : Value} (hd : ∀ d, dst = some d → d < fr.n) (hv : VR I w κ x v) : FRel I w κ (fr.put dst x) (a.put dst v) := by
  cases dst with
  | none => exact h
  | some d =>
    have hlt : d < a.tmps.size := by rw [h.size]; exact hd d rfl
    refine ⟨by simpa [Act.put, Fr.put] using h.size, fun i y hy => ?_, h.dlen, h.defs⟩
    simp only [Fr.put, List.lookup] at hy
    by_cases e : i = d
    · subst e
      simp only [beq_self_eq_true, Option.some.injEq] at hy
      subst hy
      simpa [Act.put, Array.getD, hlt] using hv
    · have e' : (i == d) = false := by simpa using e
      rw [e'] at hy
      have := h.slot i y hy
      have e2 : ¬ d = i := fun hh => e hh.symm
      have e3 : (a.tmps.setIfInBounds d v).getD i undef = a.tmps.getD i undef := by
        rw [Array.getD_eq_getD_getElem?, Array.getD_eq_getD_getElem?, Array.getElem?_setIfInBounds_ne e2]
      show VR I w κ y ((a.tmps.setIfInBounds d v).getD i undef)
      rw [e3]
      exact this

/-- Fewer slots are known. -/
theorem FRel.weak {I : Nat → Prop} {w : World} {κ : Kap} {fr fr2 : Fr} {a : Act} (h : FRel I w κ fr a) (hn : fr2.n = fr.n) (hd : fr2.d = fr.d) (hs : ∀ i x, fr2.s.lookup i = some x → x = .any ∨ fr.s.lookup i = some x) : FRel I w κ fr2 a :=
  ⟨h.size.trans hn.symm, fun i x hx => by
    rcases hs i x hx with rfl | h1
    · exact .any
    · exact h.slot i x h1, by rw [hd]; exact h.dlen, fun i x hx => h.defs i x (by rw [← hd]; exact hx)⟩

/-- What the package-level variables hold that the code reads. -/
abbrev Glob := Nat → Option AV
def GRel (I : Nat → Prop) (w : World) (G : Glob) : Prop := ∀ g x, G g = some x → VR I w kap0 x (.pointer (some ⟨g, 0, none⟩)) ∧ ∀ cs, x = .lptr [cs] 0 0 → I g ∧ ∃ us e fz, w.heap[g]? = some (.cells us e fz) ∧ us.size = cs.length

theorem Stp.grel {κ κ' : Kap} {I I' : Nat → Prop} {H H' : AH} {w w' : World} (h : Stp κ I H w κ' I' H' w') (hr : HRel κ I H w) {G : Glob} (hg : GRel I w G) : GRel I' w' G :=
  fun g x hx => ⟨(hg g x hx).1.mono h.imm (h.immHeap hr) (Ext.refl _), fun cs hc => by
    obtain ⟨h1, us, e, fz, h2, h3⟩ := (hg g x hx).2 cs hc
    exact ⟨h.imm g h1, us, e, fz, (h.immHeap hr g h1).trans h2, h3⟩⟩
theorem Stp.frel {κ κ' : Kap} {I I' : Nat → Prop} {H H' : AH} {w w' : World} (h : Stp κ I H w κ' I' H' w') (hr : HRel κ I H w) {fr : Fr} {a : Act} (hf : FRel I w κ fr a) : FRel I' w' κ' fr a :=
  hf.imp fun _ _ hv => h.vr hr hv

inductive AExit where
  | normal
  | exit (id : Nat)
  | goto (l : Nat)
  | ret
  | panic (v : AV)

def ERel (I : Nat → Prop) (w : World) (κ : Kap) : AExit → Exit → Prop
  | .normal, .normal => True
  | .exit i, .exit j => i = j
  | .goto i, .goto j => i = j
  | .ret, .ret => True
  | .panic x, .panic chain => ∃ v, chain = [{ v, recovered := false }] ∧ VR I w κ x v
  | _, _ => False

abbrev AQ := AExit → Fr → AH → Prop

def APost (κ : Kap) (I : Nat → Prop) (H : AH) (w : World) (Q : AQ) (e : Exit) (a' : Act) (w' : World) : Prop :=
  ∃ x fr' H' κ' I', ERel I' w' κ' x e ∧ HRel κ' I' H' w' ∧ FRel I' w' κ' fr' a' ∧ Stp κ I H w κ' I' H' w' ∧ Q x fr' H'

/-- The code, begun in any frame and world for which fr and H stand, ends for what Q says. -/
def AWp (P : Program) (G : Glob) (c : Code) (fr : Fr) (H : AH) (Q : AQ) : Prop :=
  ∀ κ I a w, GRel I w G → HRel κ I H w → FRel I w κ fr a → c.wp P (APost κ I H w Q) a w

inductive AEnd where
  | ret (v : AV)
  | panic (v : AV)

def EndRel (I : Nat → Prop) (w : World) (κ : Kap) : AEnd → Ending → Prop
  | .ret x, .returned v => VR I w κ x v
  | .panic x, .panicked chain => ∃ v, chain = [{ v, recovered := false }] ∧ VR I w κ x v
  | _, _ => False

def CPost (κ : Kap) (I : Nat → Prop) (H : AH) (w : World) (Q : AEnd → AH → Prop) (e : Ending) (w' : World) : Prop :=
  ∃ x H' κ' I', EndRel I' w' κ' x e ∧ HRel κ' I' H' w' ∧ Stp κ I H w κ' I' H' w' ∧ Q x H'

/-- The function, called with what args stand for, ends for what Q says. -/
def ACalls (P : Program) (G : Glob) (f : FuncId) (args : List AV) (H : AH) (Q : AEnd → AH → Prop) : Prop :=
  ∀ κ I us w, GRel I w G → HRel κ I H w → VRs I w κ args us → Calls P f ⟨us⟩ w (CPost κ I H w Q)

theorem APost.mono {κ : Kap} {I : Nat → Prop} {H : AH} {w : World} {Q Q' : AQ} (hq : ∀ e fr H, Q e fr H → Q' e fr H) {e : Exit} {a' : Act} {w' : World} (h : APost κ I H w Q e a' w') : APost κ I H w Q' e a' w' :=
  let ⟨x, fr', H', κ', I', h1, h2, h3, h4, h5⟩ := h
  ⟨x, fr', H', κ', I', h1, h2, h3, h4, hq _ _ _ h5⟩

theorem AWp.mono {P : Program} {G : Glob} {c : Code} {fr : Fr} {H : AH} {Q Q' : AQ} (h : AWp P G c fr H Q) (hq : ∀ e fr H, Q e fr H → Q' e fr H) : AWp P G c fr H Q' :=
  fun κ I a w hg hr hf => wp_mono (h κ I a w hg hr hf) fun _ _ _ hp => hp.mono hq

theorem ACalls.mono {P : Program} {G : Glob} {f : FuncId} {args : List AV} {H : AH} {Q Q' : AEnd → AH → Prop} (h : ACalls P G f args H Q) (hq : ∀ e H, Q e H → Q' e H) : ACalls P G f args H Q' :=
  fun κ I us w hg hr ha => (h κ I us w hg hr ha).mono fun _ _ ⟨x, H', κ', I', h1, h2, h3, h4⟩ => ⟨x, H', κ', I', h1, h2, h3, hq _ _ h4⟩

/-- Behind a first part: its end was normal, and the second one goes on from there. -/
def AQ.then (next : Fr → AH → Prop) (Q : AQ) : AQ
  | .normal, fr, H => next fr H
  | e, fr, H => Q e fr H

section
variable {P : Program} {G : Glob} {fr : Fr} {H : AH} {Q : AQ}

theorem AWp.skip (h : Q .normal fr H) : AWp P G .skip fr H Q :=
  fun κ I a w hg hr hf => wp_skip ⟨.normal, fr, H, κ, I, trivial, hr, hf, Stp.refl .., h⟩
theorem AWp.label {l : Nat} (h : Q .normal fr H) : AWp P G (.label l) fr H Q :=
  fun κ I a w hg hr hf => wp_label ⟨.normal, fr, H, κ, I, trivial, hr, hf, Stp.refl .., h⟩
theorem AWp.exit {i : Nat} (h : Q (.exit i) fr H) : AWp P G (.exit i) fr H Q :=
  fun κ I a w hg hr hf => wp_exit ⟨.exit i, fr, H, κ, I, rfl, hr, hf, Stp.refl .., h⟩
theorem AWp.goto {i : Nat} (h : Q (.goto i) fr H) : AWp P G (.goto i) fr H Q :=
  fun κ I a w hg hr hf => wp_goto ⟨.goto i, fr, H, κ, I, rfl, hr, hf, Stp.refl .., h⟩
theorem AWp.ret (h : Q .ret fr H) : AWp P G .ret fr H Q :=
  fun κ I a w hg hr hf => wp_ret ⟨.ret, fr, H, κ, I, trivial, hr, hf, Stp.refl .., h⟩

theorem APost.then {κ : Kap} {I : Nat → Prop} {w : World} {next : Fr → AH → Prop} {K : Act → World → Prop} (hg : GRel I w G) (hr : HRel κ I H w)
    (hK : ∀ fr' H' κ' I' a' w', next fr' H' → GRel I' w' G → HRel κ' I' H' w' → FRel I' w' κ' fr' a' → Stp κ I H w κ' I' H' w' → K a' w') {e : Exit} {a' : Act} {w' : World} (h : APost κ I H w (AQ.then next Q) e a' w') :
    Exit.then K (APost κ I H w Q) e a' w' := by
  obtain ⟨x, fr', H', κ', I', h1, h2, h3, h4, h5⟩ := h
  cases x <;> cases e <;> simp only [ERel] at h1 <;> simp only [Exit.then] <;> simp only [AQ.then] at h5
  · exact hK fr' H' κ' I' a' w' h5 (h4.grel hr hg) h2 h3 h4
  · exact ⟨.exit _, fr', H', κ', I', h1, h2, h3, h4, h5⟩
  · exact ⟨.goto _, fr', H', κ', I', h1, h2, h3, h4, h5⟩
  · exact ⟨.ret, fr', H', κ', I', h1, h2, h3, h4, h5⟩
  · exact ⟨.panic _, fr', H', κ', I', h1, h2, h3, h4, h5⟩

theorem APost.back {κ κ1 : Kap} {I I1 : Nat → Prop} {H1 : AH} {w w1 : World} (hs : Stp κ I H w κ1 I1 H1 w1) {e : Exit} {a' : Act} {w' : World} (h : APost κ1 I1 H1 w1 Q e a' w') : APost κ I H w Q e a' w' :=
  let ⟨x, fr', H', κ', I', h1, h2, h3, h4, h5⟩ := h
  ⟨x, fr', H', κ', I', h1, h2, h3, hs.trans h4, h5⟩

theorem AWp.seq {x y : Code} (h : AWp P G x fr H (AQ.then (fun fr' H' => AWp P G y fr' H' Q) Q)) : AWp P G (.seq x y) fr H Q :=
  fun κ I a w hg hr hf => wp_seq (wp_mono (h κ I a w hg hr hf) fun _ _ _ hp =>
    hp.then hg hr fun fr' H' κ' I' a' w' hn hg' hr' hf' hs => wp_mono (hn κ' I' a' w' hg' hr' hf') fun _ _ _ => APost.back hs)

def AQ.inBlock (id : Nat) (Q : AQ) : AQ
  | .exit id', fr, H => if id' = id then Q .normal fr H else Q (.exit id') fr H
  | e, fr, H => Q e fr H

theorem AWp.block {id : Nat} {c : Code} (h : AWp P G c fr H (AQ.inBlock id Q)) : AWp P G (.block id c) fr H Q :=
  fun κ I a w hg hr hf => wp_block (wp_mono (h κ I a w hg hr hf) fun e a' w' hp => by
    obtain ⟨x, fr', H', κ', I', h1, h2, h3, h4, h5⟩ := hp
    cases x <;> cases e <;> simp only [ERel] at h1 <;> simp only [Exit.inBlock] <;> simp only [AQ.inBlock] at h5
    · exact ⟨.normal, fr', H', κ', I', h1, h2, h3, h4, h5⟩
    · subst h1
      split
      · rename_i e; rw [if_pos e] at h5; exact ⟨.normal, fr', H', κ', I', trivial, h2, h3, h4, h5⟩
      · rename_i e; rw [if_neg e] at h5; exact ⟨.exit _, fr', H', κ', I', rfl, h2, h3, h4, h5⟩
    · exact ⟨.goto _, fr', H', κ', I', h1, h2, h3, h4, h5⟩
    · exact ⟨.ret, fr', H', κ', I', h1, h2, h3, h4, h5⟩
    · exact ⟨.panic _, fr', H', κ', I', h1, h2, h3, h4, h5⟩)

/-- A loop: what stands at each round's head is told by a state of one's own. -/
theorem AWp.loop {c : Code} {σ : Type} (S : σ → Fr) (SH : σ → AH) (μ : σ → Nat) (x0 : σ) (h0 : fr = S x0 ∧ H = SH x0)
    (round : ∀ x, AWp P G c (S x) (SH x) (AQ.then (fun fr' H' => ∃ x', μ x' < μ x ∧ fr' = S x' ∧ H' = SH x') Q)) : AWp P G (.loop c) fr H Q := by
  intro κ I a w hg hr hf b k cs
  obtain ⟨rfl, rfl⟩ := h0
  have key : ∀ n x, μ x = n → ∀ κ I a w, GRel I w G → HRel κ I (SH x) w → FRel I w κ (S x) a →
      ∃ e a' w', APost κ I (SH x) w Q e a' w' ∧ Arrives P (lone (b.at a (.code c :: .inLoop c :: k)) cs w) b k cs e a' w' := by
    intro n
    induction n using Nat.strongRecOn with
    | _ n ih =>
      intro x hx κ I a w hg hr hf
      obtain ⟨e, a1, w1, hq, harr⟩ := round x κ I a w hg hr hf b (.inLoop c :: k) cs
      have hq' := hq.then (K := fun a' w' => ∃ x' κ' I', μ x' < μ x ∧ GRel I' w' G ∧ HRel κ' I' (SH x') w' ∧ FRel I' w' κ' (S x') a' ∧ Stp κ I (SH x) w κ' I' (SH x') w') hg hr
        (by rintro fr' H' κ' I' a' w' ⟨x', hlt, rfl, rfl⟩ hg' hr' hf' hs; exact ⟨x', κ', I', hlt, hg', hr', hf', hs⟩)
      cases e with
      | normal =>
        obtain ⟨x', κ', I', hlt, hg', hr', hf', hs⟩ := hq'
        obtain ⟨e2, a2, w2, hq2, harr2⟩ := ih (μ x') (hx ▸ hlt) x' rfl κ' I' a1 w1 hg' hr' hf'
        exact ⟨e2, a2, w2, APost.back hs hq2, .of_steps (Steps.trans harr (.one step_inLoop)) harr2⟩
      | exit id => exact ⟨_, a1, w1, hq', .pass (x := .inLoop c) rfl (fun _ _ => .inl (by simp)) harr⟩
      | goto l => exact ⟨_, a1, w1, hq', .pass (x := .inLoop c) rfl (fun _ _ => .inl (by simp)) harr⟩
      | ret => exact ⟨_, a1, w1, hq', .pass (x := .inLoop c) rfl (fun _ _ => .inl (by simp)) harr⟩
      | panic ch => exact ⟨_, a1, w1, hq', .pass (x := .inLoop c) rfl (fun _ _ => .inl (by simp)) harr⟩
      | outgrown => exact ⟨_, a1, w1, hq', .pass (x := .inLoop c) rfl (fun _ _ => .inl (by simp)) harr⟩
  obtain ⟨e, a', w', hq, harr⟩ := key _ x0 rfl κ I a w hg hr hf
  exact ⟨e, a', w', hq, .of_steps (.one step_loop) harr⟩
end
end Go.Proofs.Ax
/- AX, part E: steps without code (freezing, weakening), dropping blocks at an end, calls in a larger heap, a function's body. -/
set_option linter.unusedVariables false
set_option linter.unusedSimpArgs false
namespace Go.Proofs.Ax
open Go.RowKit

/-- A frame that knows less. -/
def FrLe (fr2 fr : Fr) : Prop := fr2.n = fr.n ∧ fr2.d = fr.d ∧ ∀ p ∈ fr2.s, fr.get p.1 = p.2

theorem lookup_mem {l : List (Nat × AV)} {i : Nat} {x : AV} (h : l.lookup i = some x) : (i, x) ∈ l := by
  induction l with
  | nil => cases h
  | cons p l ih =>
    obtain ⟨j, y⟩ := p
    simp only [List.lookup] at h
    by_cases e : i = j
    · subst e
      simp only [beq_self_eq_true, Option.some.injEq] at h
      subst h
      exact List.mem_cons_self
    · have e' : (i == j) = false := by simpa using e
      rw [e'] at h
      exact List.mem_cons_of_mem _ (ih h)

theorem FRel.le {I : Nat → Prop} {w : World} {κ : Kap} {fr fr2 : Fr} {a : Act} (h : FRel I w κ fr a) (hl : FrLe fr2 fr) : FRel I w κ fr2 a := by
  refine h.weak hl.1 hl.2.1 fun i x hx => ?_
  have := hl.2.2 _ (lookup_mem hx)
  simp only [Fr.get] at this
  cases hk : fr.s.lookup i with
  | none => rw [hk] at this; exact .inl this.symm
  | some y => rw [hk] at this; exact .inr (by simpa using this)

/-- What stands for a world stands for it in another way. -/
def ASt (fr : Fr) (H : AH) (fr2 : Fr) (H2 : AH) : Prop :=
  ∀ κ I a w, HRel κ I H w → FRel I w κ fr a → ∃ κ' I', HRel κ' I' H2 w ∧ FRel I' w κ' fr2 a ∧ Stp κ I H w κ' I' H2 w

section
variable {P : Program} {G : Glob} {fr : Fr} {H : AH} {Q : AQ}

theorem AWp.pre {c : Code} {fr2 : Fr} {H2 : AH} (hs : ASt fr H fr2 H2) (h : AWp P G c fr2 H2 Q) : AWp P G c fr H Q := by
  intro κ I a w hg hr hf
  obtain ⟨κ', I', hr', hf', hst⟩ := hs κ I a w hr hf
  exact wp_mono (h κ' I' a w (hst.grel hr hg) hr' hf') fun _ _ _ => APost.back hst

theorem AWp.post {c : Code} (h : AWp P G c fr H (fun e fr' H' => (∃ fr2 H2, ASt fr' H' fr2 H2 ∧ Q e fr2 H2) ∧ ∀ v, e ≠ .panic v)) : AWp P G c fr H Q := by
  intro κ I a w hg hr hf
  refine wp_mono (h κ I a w hg hr hf) ?_
  rintro e a' w' ⟨x, fr', H', κ', I', h1, h2, h3, h4, ⟨fr2, H2, hs, hq⟩, hnp⟩
  obtain ⟨κ2, I2, hr2, hf2, hst⟩ := hs κ' I' a' w' h2 h3
  refine ⟨x, fr2, H2, κ2, I2, ?_, hr2, hf2, h4.trans hst, hq⟩
  cases x <;> cases e <;> first | exact h1 | exact (hnp _ rfl).elim

theorem ASt.le {fr2 : Fr} (h : FrLe fr2 fr) : ASt fr H fr2 H := fun κ I a w hr hf => ⟨κ, I, hr, hf.le h, Stp.refl ..⟩
theorem ASt.trans {fr2 fr3 : Fr} {H2 H3 : AH} (h : ASt fr H fr2 H2) (k : ASt fr2 H2 fr3 H3) : ASt fr H fr3 H3 := by
  intro κ I a w hr hf
  obtain ⟨κ', I', hr', hf', hst⟩ := h κ I a w hr hf
  obtain ⟨κ2, I2, hr2, hf2, hst2⟩ := k κ' I' a w hr' hf'
  exact ⟨κ2, I2, hr2, hf2, hst.trans hst2⟩

theorem AWp.weak {c : Code} {fr2 : Fr} (hl : FrLe fr2 fr) (h : AWp P G c fr2 H Q) : AWp P G c fr H Q := .pre (.le hl) h

/-! ### Freezing -/
theorem HRel.dead {κ : Kap} {I I' : Nat → Prop} {w : World} {id : Nat} {B : AB} {c : Conc} (h : HRel κ I H w) (hB : H[id]? = some B) (hl : B.live = true) (hc : κ id = some c) (hI : ∀ b, I' b ↔ I b ∨ hblk c.hdr = some b) :
    HRel κ I' (H.set id .dead) w ∧ Stp κ I H w κ I' (H.set id .dead) w := by
  have hlt : id < H.length := (List.getElem?_eq_some_iff.1 hB).1
  have sub : ∀ b, I b → I' b := fun b hb => (hI b).2 (.inl hb)
  have back : ∀ (j : Nat) (B' : AB), (H.set id .dead)[j]? = some B' → B'.live = true → j ≠ id ∧ H[j]? = some B' := by
    intro j B' hj hl'
    by_cases e : j = id
    · subst e
      rw [List.getElem?_set_self hlt] at hj
      cases hj
      cases hl'
    · rw [List.getElem?_set_ne (fun x => e x.symm)] at hj
      exact ⟨e, hj⟩
  have hown : ∀ b, own κ (H.set id .dead) b → own κ H b := by
    rintro b ⟨j, B', c', h1, h2, h3, h4⟩
    obtain ⟨_, h5⟩ := back j B' h1 h2
    exact ⟨j, B', c', h5, h2, h3, h4⟩
  refine ⟨⟨fun j => by rw [List.length_set]; exact h.dom j, fun j B' hj => ?_, ?_, fun b hb => ?_⟩, ⟨rfl, rfl, rfl, Nat.le_refl _, sub, fun _ _ _ => rfl, fun b hb => ?_, fun b hb => .inl (hown b hb), Ext.refl _⟩⟩
  · by_cases hl' : B'.live = true
    · obtain ⟨_, h5⟩ := back j B' hj hl'
      exact (h.ok j B' h5).mono rfl (fun _ _ _ _ => rfl) sub (fun _ _ => rfl) (Ext.refl _)
    · cases B' <;> first | trivial | (simp [AB.live] at hl')
  · intro j j' B1 B2 c1 c2 b h1 l1 h2 l2 k1 k2 b1 b2
    exact h.inj j j' B1 B2 c1 c2 b (back j B1 h1 l1).2 l1 (back j' B2 h2 l2).2 l2 k1 k2 b1 b2
  · rcases (hI b).1 hb with h1 | h1
    · exact ⟨(h.sep b h1).1, fun ho => (h.sep b h1).2 (hown b ho)⟩
    · refine ⟨(h.ok id B hB).lt hl hc h1, ?_⟩
      rintro ⟨j, B', c', h2, h3, h4, h5⟩
      obtain ⟨hne, h6⟩ := back j B' h2 h3
      exact hne (h.inj j id B' B c' c b h6 h3 hB hl h4 hc h5 h1)
  · rcases (hI b).1 hb with h1 | h1
    · exact .inl h1
    · exact .inr (.inr ⟨id, B, c, hB, hl, hc, h1⟩)

theorem VR.frozen {κ : Kap} {I : Nat → Prop} {w : World} {id e sz : Nat} {elems : List (List AV)} {c : Conc} (h : BOk I w κ id (.row e sz elems)) (hc : κ id = some c) {I' : Nat → Prop} (hI : ∀ b, I' b ↔ I b ∨ hblk c.hdr = some b) :
    VR I' w κ (frzV elems) c.hdr := by
  obtain ⟨c', us, hc', h1, h2, ⟨h3, h4⟩, h5, h6, h7⟩ := h
  obtain rfl : c' = c := by rw [hc] at hc'; cases hc'; rfl
  have hsub : ∀ b, I b → I' b := fun b hb => (hI b).2 (.inl hb)
  have hlenF : elems.flatten.length = elems.length * sz := by
    clear h3 h4 h7 h1
    induction elems with
    | nil => simp
    | cons x l ih =>
      simp only [List.flatten_cons, List.length_append, List.length_cons]
      rw [ih (fun el hel => h5 el (List.mem_cons_of_mem _ hel)), h5 x List.mem_cons_self, Nat.add_mul]
      omega
  have hcells : ∀ j x, (elems.map (AV.rens fun _ => none)).flatten[j]? = some x → VR I' w kap0 x (us.getD j undef) := by
    intro j x hx
    rw [flatten_rens, List.getElem?_map] at hx
    obtain ⟨y, hy, rfl⟩ := Option.map_eq_some_iff.1 hx
    exact ((h7 j y hy).mono hsub (fun _ _ => rfl) (Ext.refl _)).ren (by intro _ _ h; cases h)
  have hone : ∀ j, j < (elems.map (AV.rens fun _ => none)).length * sz → (us.getD j undef).oneCell' = true := by
    intro j hj
    have hj' : j < us.length := by rw [h3]; simpa using hj
    exact h6 _ (by simp [List.getD, List.getElem?_eq_getElem hj'])
  have hsz : ∀ el ∈ elems.map (AV.rens fun _ => none), el.length = sz := by
    intro el hel
    obtain ⟨y, hy, rfl⟩ := List.mem_map.1 hel
    simpa [AV.rens_eq] using h5 y hy
  unfold frzV
  rcases h4 with ⟨e1, e2⟩ | ⟨g, cap, cur, e1, _, e3, e4, e5, e6, e7⟩
  · have he : elems = [] := List.eq_nil_of_length_eq_zero e2
    subst he
    rw [e1]
    exact .lit (elems := []) (a := none) (cp := 0) sz (fun j => us.getD j undef) (Nat.zero_le _) (Nat.zero_le _) (by simp) (fun h => absurd rfl h) (by intro j hj; simp at hj) (fun j x hx => by simp at hx)
  · have hlen : (elems.map (AV.rens fun _ => none)).length = elems.length := by simp
    rw [e1]
    have := VR.lit (I := I') (w := w) (κ := κ) (elems := elems.map (AV.rens fun _ => none)) (a := some ⟨g, 0, none⟩) (cp := cap) sz (fun j => us.getD j undef) (by rw [hlen]; exact e4) (by rw [hlen]; omega) hsz
      (fun _ => ⟨g, 0, rfl, (hI g).2 (.inr (by rw [e1]; rfl)), fun j hj => ?_⟩) hone hcells
    · rw [hlen] at this; exact this
    · have hj' : j < us.length := by rw [h3]; simpa using hj
      rw [Nat.zero_add]
      have : cur.toList[j]? = us[j]? := by
        rw [← e7, List.getElem?_take]
        rw [if_pos (by rw [h3] at hj'; exact hj')]
      simp only [World.cell?, e3]
      rw [show (none : Option Nat).isSome = false from rfl]
      simp only [Bool.false_eq_true, if_false]
      rw [← Array.getElem?_toList, this]
      simp [List.getD, List.getElem?_eq_getElem hj']

def Fr.frz (fr : Fr) (id st : Nat) (x : AV) : Fr := { fr with s := fr.s.map fun p => (p.1, AV.frz id st x p.2), d := fr.d }

theorem lookup_map (l : List (Nat × AV)) (f : AV → AV) (i : Nat) : (l.map fun p => (p.1, f p.2)).lookup i = (l.lookup i).map f := by
  induction l with
  | nil => rfl
  | cons p l ih =>
    simp only [List.map_cons, List.lookup]
    split <;> simp_all

theorem AB.frz_keep (B : AB) : B = B := rfl

/-- A row of the call's own becomes a slice that nobody writes to: in the frame's slots. -/
theorem ASt.freeze (id : Nat) {e sz : Nat} {elems : List (List AV)} (hB : H[id]? = some (.row e sz elems)) : ASt fr H (fr.frz id elems.length (frzV elems)) (H.set id .dead) := by
  intro κ I a w hr hf
  have hok := hr.ok id _ hB
  have hok' := hok
  obtain ⟨c, us, hc, h1, h2⟩ := hok'
  have hI : ∀ b, (fun b => I b ∨ hblk c.hdr = some b) b ↔ I b ∨ hblk c.hdr = some b := fun _ => Iff.rfl
  obtain ⟨hr', hst⟩ := hr.dead (I' := fun b => I b ∨ hblk c.hdr = some b) hB rfl hc hI
  have hx := VR.frozen hok hc hI
  have hf' := hst.frel hr hf
  refine ⟨κ, _, hr', ⟨hf'.size, fun i x hx' => ?_, hf'.dlen, hf'.defs⟩, hst⟩
  simp only [Fr.frz, lookup_map] at hx'
  obtain ⟨y, hy, rfl⟩ := Option.map_eq_some_iff.1 hx'
  exact (hf'.slot i y hy).frz hc h1 hx rfl

/-! ### Dropping blocks at an end -/
def AExit.ren (σ : Nat → Option Nat) : AExit → AExit
  | .panic v => .panic (v.ren σ)
  | e => e
def ADef.ren (σ : Nat → Option Nat) (x : ADef) : ADef := ⟨x.fn, AV.rens σ x.cap, AV.rens σ x.args, x.mark⟩
def Fr.ren (σ : Nat → Option Nat) (fr : Fr) : Fr := { s := fr.s.map fun p => (p.1, p.2.ren σ), n := fr.n, d := fr.d.map (ADef.ren σ) }

theorem VRs.ren {I : Nat → Prop} {w : World} {κ κ2 : Kap} {σ : Nat → Option Nat} {xs : List AV} {us : List Value} (h : VRs I w κ xs us) (hσ : ∀ id j, σ id = some j → κ2 j = κ id) : VRs I w κ2 (AV.rens σ xs) us :=
  ⟨by simpa [AV.rens_eq] using h.1, fun i x hx => by
    rw [AV.rens_eq, List.getElem?_map] at hx
    obtain ⟨y, hy, rfl⟩ := Option.map_eq_some_iff.1 hx
    exact (h.2 i y hy).ren hσ⟩

theorem FRel.ren {I : Nat → Prop} {w : World} {κ κ2 : Kap} {σ : Nat → Option Nat} {a : Act} (h : FRel I w κ fr a) (hσ : ∀ id j, σ id = some j → κ2 j = κ id) : FRel I w κ2 (fr.ren σ) a :=
  ⟨h.size, fun i x hx => by
    simp only [Fr.ren, lookup_map] at hx
    obtain ⟨y, hy, rfl⟩ := Option.map_eq_some_iff.1 hx
    exact (h.slot i y hy).ren hσ, by simpa [Fr.ren] using h.dlen, fun i x hx => by
    simp only [Fr.ren, List.getElem?_map] at hx
    obtain ⟨y, hy, rfl⟩ := Option.map_eq_some_iff.1 hx
    obtain ⟨⟨us, h1, h2⟩, h3⟩ := h.defs i y hy
    exact ⟨⟨us, h1, h2.ren hσ⟩, h3.ren hσ⟩⟩

theorem AWp.keep {c : Code} (h : AWp P G c fr H (fun e fr' H' => ∃ n xs, H.length ≤ n ∧ n ≤ H'.length ∧ (∀ x ∈ xs, n ≤ x ∧ x < H'.length) ∧ xs.Nodup ∧ Q (e.ren (keepS n xs)) (fr'.ren (keepS n xs)) (H'.keep n xs))) : AWp P G c fr H Q := by
  intro κ I a w hg hr hf
  refine wp_mono (h κ I a w hg hr hf) ?_
  rintro e a' w' ⟨x, fr', H', κ', I', h1, h2, h3, h4, n, xs, hn0, hn, hxs, hnd, hq⟩
  refine ⟨x.ren (keepS n xs), _, _, kapKeep κ' n xs, I', ?_, h2.keep n xs hn hxs hnd, h3.ren (kapKeep_spec κ' n xs), h4.keep hr n xs hn hn0 hxs, hq⟩
  cases x <;> cases e <;> simp only [ERel, AExit.ren] at h1 ⊢
  · exact h1
  · exact h1
  · obtain ⟨v, e1, e2⟩ := h1
    exact ⟨v, e1, e2.ren (kapKeep_spec κ' n xs)⟩

/-! ### A function's body -/
def enterS : Nat → List AV → List (Nat × AV)
  | _, [] => []
  | k, x :: l => (k, x) :: enterS (k + 1) l
def Fr.enter (args : List AV) (n : Nat) : Fr := { s := enterS 0 args, n := args.length + (n - args.length), d := [] }

theorem enterS_lookup {l : List AV} : ∀ {k i : Nat} {x : AV}, (enterS k l).lookup i = some x → k ≤ i ∧ l[i - k]? = some x := by
  induction l with
  | nil => intro k i x h; cases h
  | cons y l ih =>
    intro k i x h
    simp only [enterS, List.lookup] at h
    by_cases e : i = k
    · subst e
      simp only [beq_self_eq_true, Option.some.injEq] at h
      subst h
      exact ⟨Nat.le_refl _, by simp⟩
    · have e' : (i == k) = false := by simpa using e
      rw [e'] at h
      obtain ⟨h1, h2⟩ := ih h
      refine ⟨by omega, ?_⟩
      have : i - k = (i - (k + 1)) + 1 := by omega
      rw [this]
      simpa using h2

/-- The results' slots, read. -/
def resT : List ResultVar → Option (List Tmp)
  | [] => some []
  | .tmp t :: l => (resT l).map (t :: ·)
  | .cell .. :: _ => none
def packR : List AV → AV
  | [x] => x
  | l => .tuple l

theorem run_results {fn : Func} {ts : List Tmp} (h : resT fn.results.toList = some ts) (tmps : Array Value) (w : World) :
    (results fn tmps).run P w = .ok (match ts.map fun t => tmps.getD t undef with | [x] => x | l => .tuple ⟨l⟩) w := by
  have key : ∀ (g : ResultVar → Sem Value), (∀ t, g (.tmp t) = pure (tmps.getD t undef)) → ∀ (l : List ResultVar) (ts : List Tmp), resT l = some ts → (l.mapM g).run P w = .ok (ts.map fun t => tmps.getD t undef) w := by
    intro g hg l
    induction l with
    | nil => intro ts h; cases h; rfl
    | cons x l ih =>
      intro ts h
      cases x with
      | cell a t => cases h
      | tmp t =>
        simp only [resT, Option.map_eq_some_iff] at h
        obtain ⟨ts', h1, rfl⟩ := h
        simp only [List.mapM_cons, Sem.run_bind, hg, Sem.run_pure, Result.andThen_ok, ih ts' h1, List.map_cons]
  unfold results
  rw [Sem.run_bind, Array.mapM_eq_mapM_toList, Sem.run_map, key _ ?hg _ ts h]
  case hg => intro t; rfl
  simp only [Result.andThen_ok, Sem.run_pure]
  congr 1
  match ts with
  | [] => rfl
  | [x] => rfl
  | x :: y :: l => rfl

def bodyQ (ts : List Tmp) (Q : AEnd → AH → Prop) : AQ
  | .normal, fr, H => fr.d = [] ∧ Q (.ret (packR (ts.map fr.get))) H
  | .ret, fr, H => fr.d = [] ∧ Q (.ret (packR (ts.map fr.get))) H
  | .panic v, fr, H => fr.d = [] ∧ Q (.panic v) H
  | _, _, _ => False

theorem FRel.get {I : Nat → Prop} {w : World} {κ : Kap} {a : Act} (h : FRel I w κ fr a) (t : Nat) : VR I w κ (fr.get t) (a.tmps.getD t undef) := by
  unfold Fr.get
  cases hk : fr.s.lookup t with
  | none => exact .any
  | some x => exact h.slot t x hk

theorem vr_pack {I : Nat → Prop} {w : World} {κ : Kap} {a : Act} (h : FRel I w κ fr a) (ts : List Tmp) : VR I w κ (packR (ts.map fr.get)) (match ts.map fun t => a.tmps.getD t undef with | [x] => x | l => .tuple ⟨l⟩) := by
  have hx : VR I w κ (.tuple (ts.map fr.get)) (.tuple ⟨ts.map fun t => a.tmps.getD t undef⟩) := by
    refine .tuple (by simp) (fun i x hx => ?_)
    rw [List.getElem?_map] at hx
    obtain ⟨t, ht, rfl⟩ := Option.map_eq_some_iff.1 hx
    simp only [List.getD, List.getElem?_map, ht, Option.map_some, Option.getD_some]
    exact h.get t
  match ts with
  | [] => exact hx
  | [t] => exact h.get t
  | t :: u :: l => exact hx

theorem ACalls.of_body {f : FuncId} {fn : Func} {c : Code} {args : List AV} {ts : List Tmp} {Q : AEnd → AH → Prop} (hf : P.funcs[f]? = some fn) (hb : fn.body = some c) (ht : resT fn.results.toList = some ts)
    (h : AWp P G c (Fr.enter args fn.ntmps) H (bodyQ ts Q)) : ACalls P G f args H Q := by
  intro κ I us w hg hr ha
  refine calls_of_wp hf hb (wp_mono (h κ I _ w hg hr ?_) ?_)
  · refine ⟨?_, fun i x hx => ?_, rfl, fun i x hx => by simp [Fr.enter] at hx⟩
    · simp [Fr.enter, ha.1]
    · obtain ⟨_, h2⟩ := enterS_lookup hx
      have h3 := ha.2 i x (by simpa using h2)
      have hlt : i < us.length := by
        rw [ha.1]
        exact (List.getElem?_eq_some_iff.1 (by simpa using h2)).1
      have e : ((⟨us⟩ : Array Value) ++ Array.replicate (fn.ntmps - us.length) undef).getD i undef = us.getD i undef := by
        rw [Array.getD_eq_getD_getElem?, Array.getElem?_append_left (by simpa using hlt)]
        simp [List.getD]
      have e' : (⟨us⟩ : Array Value).size = us.length := rfl
      rw [e', e]
      exact h3
  · rintro e a' w' ⟨x, fr', H', κ', I', h1, h2, h3, h4, h5⟩
    have hd : fr'.d = [] → a'.defers = [] := fun hd => List.eq_nil_of_length_eq_zero (by rw [h3.dlen, hd]; rfl)
    cases x <;> cases e <;> simp only [ERel] at h1 <;> simp only [bodyQ] at h5
    · exact ⟨hd h5.1, _, run_results ht _ _, .ret _, H', κ', I', vr_pack h3 ts, h2, h4, h5.2⟩
    · exact ⟨hd h5.1, _, run_results ht _ _, .ret _, H', κ', I', vr_pack h3 ts, h2, h4, h5.2⟩
    · exact ⟨hd h5.1, .panic _, H', κ', I', h1, h2, h4, h5.2⟩
end
end Go.Proofs.Ax
/- AX, part F: a call in a larger heap. -/
set_option linter.unusedVariables false
set_option linter.unusedSimpArgs false
namespace Go.Proofs.Ax
open Go.RowKit

/-- The callee's numbers in the caller's words: those that were handed over, then new ones. -/
def upS (σ : List Nat) (n : Nat) (k : Nat) : Option Nat := if k < σ.length then σ[k]? else some (n + (k - σ.length))
def setAll : AH → List Nat → AH → AH
  | H, i :: σ, B :: Bs => setAll (H.set i B) σ Bs
  | H, _, _ => H
/-- The caller's heap behind a call that was handed the blocks σ and left H'. -/
def AH.merge (H : AH) (σ : List Nat) (H' : AH) : AH := setAll H σ ((H'.take σ.length).map (AB.ren (upS σ H.length))) ++ (H'.drop σ.length).map (AB.ren (upS σ H.length))
def AEnd.ren (σ : Nat → Option Nat) : AEnd → AEnd
  | .ret v => .ret (v.ren σ)
  | .panic v => .panic (v.ren σ)

theorem setAll_length (σ : List Nat) : ∀ (H Bs : AH), (setAll H σ Bs).length = H.length := by
  induction σ with
  | nil => intro H Bs; cases Bs <;> rfl
  | cons i σ ih =>
    intro H Bs
    cases Bs with
    | nil => rfl
    | cons B Bs => simp only [setAll]; rw [ih, List.length_set]

theorem posIn_none {xs : List Nat} : ∀ {n id : Nat}, posIn xs n id = none ↔ id ∉ xs := by
  induction xs with
  | nil => intro n id; simp [posIn]
  | cons x r ih =>
    intro n id
    simp only [posIn]
    split
    · rename_i e; subst e; simp
    · rename_i e; rw [ih]; simp [e]

theorem posIn_shift {xs : List Nat} : ∀ {n id : Nat}, posIn xs (n + 1) id = (posIn xs n id).map (· + 1) := by
  induction xs with
  | nil => intro n id; rfl
  | cons x r ih =>
    intro n id
    simp only [posIn]
    split
    · rfl
    · exact ih

theorem setAll_get (σ : List Nat) : ∀ (H Bs : AH), σ.Nodup → (∀ x ∈ σ, x < H.length) → Bs.length = σ.length → ∀ j, (setAll H σ Bs)[j]? = match posIn σ 0 j with | some k => Bs[k]? | none => H[j]? := by
  induction σ with
  | nil => intro H Bs _ _ _ j; cases Bs <;> rfl
  | cons i σ ih =>
    intro H Bs hnd hlt hlen j
    cases Bs with
    | nil => simp at hlen
    | cons B Bs =>
      obtain ⟨h1, h2⟩ := List.nodup_cons.1 hnd
      simp only [setAll, posIn]
      rw [ih (H.set i B) Bs h2 (fun x hx => by rw [List.length_set]; exact hlt x (List.mem_cons_of_mem _ hx)) (by simpa using hlen) j]
      by_cases e : j = i
      · subst e
        have hn : posIn σ 0 j = none := posIn_none.2 h1
        rw [hn, if_pos rfl]
        simp only [List.getElem?_cons_zero]
        exact List.getElem?_set_self (hlt j List.mem_cons_self)
      · rw [if_neg e, posIn_shift]
        cases hp : posIn σ 0 j with
        | none => simp only [Option.map_none]; exact List.getElem?_set_ne (fun x => e x.symm)
        | some k => simp

/-- What the numbers are behind the call. -/
def kapMerge (κ κ' : Kap) (σ : List Nat) (n : Nat) : Kap := fun j => if j < n then (match posIn σ 0 j with | some k => κ' k | none => κ j) else κ' (σ.length + (j - n))

theorem posIn_self {σ : List Nat} (hnd : σ.Nodup) {k id : Nat} (h : σ[k]? = some id) : posIn σ 0 id = some k := by
  cases hp : posIn σ 0 id with
  | none => exact absurd (List.mem_of_getElem? h) (posIn_none.1 hp)
  | some j =>
    obtain ⟨_, h2⟩ := posIn_spec hp
    have l1 := (List.getElem?_eq_some_iff.1 h).1
    have h2' : σ[j]? = some id := by simpa using h2
    have l2 := (List.getElem?_eq_some_iff.1 h2').1
    have := (List.getElem?_inj l1 hnd).1 (h.trans h2'.symm)
    rw [this]

theorem kapMerge_spec {κ κ' : Kap} {σ : List Nat} {n : Nat} (hnd : σ.Nodup) (hlt : ∀ x ∈ σ, x < n) (k j : Nat) (h : upS σ n k = some j) : kapMerge κ κ' σ n j = κ' k := by
  unfold upS at h
  unfold kapMerge
  split at h
  · rename_i hk
    have hj : j < n := hlt j (List.mem_of_getElem? h)
    rw [if_pos hj, posIn_self hnd h]
  · rename_i hk
    cases h
    rw [if_neg (by omega)]
    congr 1
    omega

theorem EndRel.ren {I : Nat → Prop} {w : World} {κ κ2 : Kap} {σ : Nat → Option Nat} {x : AEnd} {e : Ending} (h : EndRel I w κ x e) (hσ : ∀ id j, σ id = some j → κ2 j = κ id) : EndRel I w κ2 (x.ren σ) e := by
  cases x <;> cases e <;> simp only [EndRel, AEnd.ren] at h ⊢
  · exact h.ren hσ
  · obtain ⟨v, e1, e2⟩ := h
    exact ⟨v, e1, e2.ren hσ⟩

theorem HRel.merge {κ κ' : Kap} {I I' : Nat → Prop} {H H' : AH} {w w' : World} {σ : List Nat} (h : HRel κ I H w) (hnd : σ.Nodup) (hlt : ∀ x ∈ σ, x < H.length)
    (hs : Stp (kapKeep κ 0 σ) I (H.keep 0 σ) w κ' I' H' w') (h' : HRel κ' I' H' w') :
    HRel (kapMerge κ κ' σ H.length) I' (H.merge σ H') w' ∧ Stp κ I H w (kapMerge κ κ' σ H.length) I' (H.merge σ H') w' := by
  have hc := h.keep 0 σ (Nat.zero_le _) (fun x hx => ⟨Nat.zero_le _, hlt x hx⟩) hnd
  have hclen : (H.keep 0 σ).length = σ.length := by simp [AH.keep]
  -- the callee's heap holds what was handed over
  have hσ' : σ.length ≤ H'.length := by
    rcases Nat.eq_zero_or_pos σ.length with h0 | h0
    · omega
    · have hk : ((kapKeep κ 0 σ) (σ.length - 1)).isSome = true := (hc.dom _).1 (by rw [hclen]; omega)
      obtain ⟨c, hc'⟩ := Option.isSome_iff_exists.1 hk
      obtain ⟨c2, hc2, _⟩ := hs.ext _ c hc'
      have := (h'.dom (σ.length - 1)).2 (by rw [hc2]; rfl)
      omega
  have hBs : ((H'.take σ.length).map (AB.ren (upS σ H.length))).length = σ.length := by simp [Nat.min_eq_left hσ']
  have hset := setAll_get σ H ((H'.take σ.length).map (AB.ren (upS σ H.length))) hnd hlt hBs
  have hmlen : (H.merge σ H').length = H.length + (H'.length - σ.length) := by simp [AH.merge, setAll_length]
  have hup := kapMerge_spec (κ := κ) (κ' := κ') hnd hlt
  -- which block of which heap a merged one is
  have old : ∀ (j : Nat) (B : AB), (H.merge σ H')[j]? = some B →
      (∃ k B0, H'[k]? = some B0 ∧ B = B0.ren (upS σ H.length) ∧ upS σ H.length k = some j ∧ kapMerge κ κ' σ H.length j = κ' k) ∨
      (j < H.length ∧ j ∉ σ ∧ H[j]? = some B ∧ kapMerge κ κ' σ H.length j = κ j) := by
    intro j B hB
    by_cases hj : j < H.length
    · have e : (H.merge σ H')[j]? = (setAll H σ ((H'.take σ.length).map (AB.ren (upS σ H.length))))[j]? := by
        unfold AH.merge
        rw [List.getElem?_append_left (by rw [setAll_length]; exact hj)]
      rw [e, hset j] at hB
      cases hp : posIn σ 0 j with
      | none =>
        rw [hp] at hB
        exact .inr ⟨hj, posIn_none.1 hp, hB, by simp [kapMerge, hj, hp]⟩
      | some k =>
        rw [hp] at hB
        obtain ⟨_, hk⟩ := posIn_spec hp
        have hk' : σ[k]? = some j := by simpa using hk
        have hkl := (List.getElem?_eq_some_iff.1 hk').1
        simp only [List.getElem?_map, List.getElem?_take, if_pos hkl] at hB
        obtain ⟨B0, hB0, rfl⟩ := Option.map_eq_some_iff.1 hB
        exact .inl ⟨k, B0, hB0, rfl, by unfold upS; rw [if_pos hkl]; exact hk', by simp [kapMerge, hj, hp]⟩
    · have e : (H.merge σ H')[j]? = ((H'.drop σ.length)[j - H.length]?).map (AB.ren (upS σ H.length)) := by
        unfold AH.merge
        rw [List.getElem?_append_right (by rw [setAll_length]; omega), setAll_length, List.getElem?_map]
      rw [e, List.getElem?_drop] at hB
      obtain ⟨B0, hB0, rfl⟩ := Option.map_eq_some_iff.1 hB
      refine .inl ⟨σ.length + (j - H.length), B0, hB0, rfl, ?_, by simp [kapMerge, hj]⟩
      have : ¬ σ.length + (j - H.length) < σ.length := by omega
      simp only [upS, if_neg this]
      congr 1
      omega
  have live : ∀ B : AB, (B.ren (upS σ H.length)).live = true → B.live = true := by
    intro B hB
    cases B <;> first | rfl | (simp [AB.ren, AB.live] at hB)
  -- the callee owns nothing of the caller's that it was not handed
  have hownc : ∀ b, own (kapKeep κ 0 σ) (H.keep 0 σ) b → ∃ (id : Nat) (B : AB) (c : Conc), id ∈ σ ∧ H[id]? = some B ∧ B.live = true ∧ κ id = some c ∧ hblk c.hdr = some b := by
    rintro b ⟨j, B, c, h1, h2, h3, h4⟩
    have e : (H.keep 0 σ)[j]? = (σ[j]?).map fun id => (H.getD id .dead).ren (keepS 0 σ) := by simp [AH.keep]
    rw [e] at h1
    obtain ⟨id, hid, rfl⟩ := Option.map_eq_some_iff.1 h1
    have hm := List.mem_of_getElem? hid
    have hl := hlt id hm
    have hg : H.getD id .dead = H[id] := by simp [List.getD, List.getElem?_eq_getElem hl]
    rw [hg] at h2
    refine ⟨id, H[id], c, hm, List.getElem?_eq_getElem hl, ?_, by simpa [kapKeep, hid] using h3, h4⟩
    cases hB : H[id] <;> rw [hB] at h2 <;> first | rfl | (simp [AB.ren, AB.live] at h2)
  have hownc' : ∀ b, own (kapKeep κ 0 σ) (H.keep 0 σ) b → own κ H b := fun b hb => by
    obtain ⟨id, B, c, _, h1, h2, h3, h4⟩ := hownc b hb
    exact ⟨id, B, c, h1, h2, h3, h4⟩
  have hext : Ext κ (kapMerge κ κ' σ H.length) := by
    intro id c hc0
    have hl : id < H.length := (h.dom id).2 (by rw [hc0]; rfl)
    cases hp : posIn σ 0 id with
    | none => exact ⟨c, by simp [kapMerge, hl, hp, hc0], Nat.le_refl _, fun _ => rfl⟩
    | some k =>
      obtain ⟨_, hk⟩ := posIn_spec hp
      have hk' : σ[k]? = some id := by simpa using hk
      obtain ⟨c', hc', h1, h2⟩ := hs.ext k c (by simp [kapKeep, hk', hc0])
      exact ⟨c', by simp [kapMerge, hl, hp, hc'], h1, h2⟩
  have hImm : ∀ b, I b → w'.heap[b]? = w.heap[b]? := fun b hb => hs.immHeap hc b hb
  have hother : ∀ (j : Nat) (B : AB) (c : Conc) (b : Nat), j ∉ σ → H[j]? = some B → B.live = true → κ j = some c → hblk c.hdr = some b → b < w.heap.size ∧ ¬ own (kapKeep κ 0 σ) (H.keep 0 σ) b := by
    intro j B c b hj hB hl hk hb
    refine ⟨(h.ok j B hB).lt hl hk hb, fun ho => ?_⟩
    obtain ⟨id, B', c', h0, h1, h2, h3, h4⟩ := hownc b ho
    have := h.inj j id B B' c c' b hB hl h1 h2 hk h3 hb h4
    exact hj (this ▸ h0)
  have hown : ∀ b, own (kapMerge κ κ' σ H.length) (H.merge σ H') b → own κ' H' b ∨ ∃ (j : Nat) (B : AB) (c : Conc), j ∉ σ ∧ H[j]? = some B ∧ B.live = true ∧ κ j = some c ∧ hblk c.hdr = some b := by
    rintro b ⟨j, B, c, h1, h2, h3, h4⟩
    rcases old j B h1 with ⟨k, B0, hB0, rfl, _, hk⟩ | ⟨_, hn, hB, hk⟩
    · exact .inl ⟨k, B0, c, hB0, live _ h2, hk ▸ h3, h4⟩
    · exact .inr ⟨j, B, c, hn, hB, h2, hk ▸ h3, h4⟩
  refine ⟨⟨fun j => ?_, fun j B hB => ?_, ?_, fun b hb => ⟨(h'.sep b hb).1, fun ho => ?_⟩⟩,
    ⟨hs.os, hs.tape, hs.output, hs.size, hs.imm, fun b hb hn => hs.kept b hb (fun ho => hn (hownc' b ho)), fun b hb => ?_, fun b hb => ?_, hext⟩⟩
  · rw [hmlen]
    unfold kapMerge
    by_cases hj : j < H.length
    · rw [if_pos hj]
      constructor
      · intro _
        cases hp : posIn σ 0 j with
        | none => exact (h.dom j).1 hj
        | some k =>
          obtain ⟨_, hk⟩ := posIn_spec hp
          have hk' : σ[k]? = some j := by simpa using hk
          have := (List.getElem?_eq_some_iff.1 hk').1
          exact (h'.dom k).1 (by omega)
      · intro _; omega
    · rw [if_neg hj, ← h'.dom]
      omega
  · rcases old j B hB with ⟨k, B0, hB0, rfl, _, hk⟩ | ⟨_, hn, hB', hk⟩
    · exact (h'.ok k B0 hB0).ren hup hk
    · by_cases hl : B.live = true
      · exact (h.ok j B hB').mono hk (fun c b hc0 hb => hs.kept b (hother j B c b hn hB' hl hc0 hb).1 (hother j B c b hn hB' hl hc0 hb).2) hs.imm hImm hext
      · cases B <;> first | trivial | (simp [AB.live] at hl)
  · intro j j' B1 B2 c1 c2 b h1 l1 h2 l2 k1 k2 b1 b2
    rcases old j B1 h1 with ⟨k, B0, hB0, rfl, u1, hk⟩ | ⟨hj, hn, hB, hk⟩ <;> rcases old j' B2 h2 with ⟨k', B0', hB0', rfl, u2, hk'⟩ | ⟨hj', hn', hB', hk'⟩
    · have := h'.inj k k' B0 B0' c1 c2 b hB0 (live _ l1) hB0' (live _ l2) (hk ▸ k1) (hk' ▸ k2) b1 b2
      subst this
      rw [u1] at u2; cases u2; rfl
    · exfalso
      have ho := hother j' B2 c2 b hn' hB' l2 (hk' ▸ k2) b2
      rcases hs.owned b ⟨k, B0, c1, hB0, live _ l1, hk ▸ k1, b1⟩ with h5 | h5
      · exact ho.2 h5
      · omega
    · exfalso
      have ho := hother j B1 c1 b hn hB l1 (hk ▸ k1) b1
      rcases hs.owned b ⟨k', B0', c2, hB0', live _ l2, hk' ▸ k2, b2⟩ with h5 | h5
      · exact ho.2 h5
      · omega
    · exact h.inj j j' B1 B2 c1 c2 b hB l1 hB' l2 (hk ▸ k1) (hk' ▸ k2) b1 b2
  · rcases hown b ho with h1 | ⟨j, B, c, hn, hB, hl, hk, hb'⟩
    · exact (h'.sep b hb).2 h1
    · have h1 := hother j B c b hn hB hl hk hb'
      rcases hs.fresh b hb with h2 | h2 | h2
      · exact (h.sep b h2).2 ⟨j, B, c, hB, hl, hk, hb'⟩
      · omega
      · exact h1.2 h2
  · rcases hs.fresh b hb with h2 | h2 | h2
    · exact .inl h2
    · exact .inr (.inl h2)
    · exact .inr (.inr (hownc' b h2))
  · rcases hown b hb with h1 | ⟨j, B, c, hn, hB, hl, hk, hb'⟩
    · rcases hs.owned b h1 with h2 | h2
      · exact .inl (hownc' b h2)
      · exact .inr h2
    · exact .inl ⟨j, B, c, hB, hl, hk, hb'⟩

theorem ACalls.frame {P : Program} {G : Glob} {f : FuncId} {args : List AV} {H : AH} (σ : List Nat) (hnd : σ.Nodup) (hlt : ∀ x ∈ σ, x < H.length) {Q : AEnd → AH → Prop}
    (h : ACalls P G f (AV.rens (posIn σ 0) args) (H.keep 0 σ) Q) :
    ACalls P G f args H (fun e H2 => ∃ e0 H', Q e0 H' ∧ e = e0.ren (upS σ H.length) ∧ H2 = H.merge σ H') := by
  intro κ I us w hg hr ha
  have hk : keepS 0 σ = posIn σ 0 := by funext id; simp [keepS]
  have hc := hr.keep 0 σ (Nat.zero_le _) (fun x hx => ⟨Nat.zero_le _, hlt x hx⟩) hnd
  have ha' : VRs I w (kapKeep κ 0 σ) (AV.rens (posIn σ 0) args) us := by
    rw [← hk]
    exact ha.ren (kapKeep_spec κ 0 σ)
  refine (h _ I us w hg hc ha').mono ?_
  rintro e w' ⟨x, H', κ', I', h1, h2, h3, h4⟩
  obtain ⟨m1, m2⟩ := hr.merge hnd hlt h3 h2
  exact ⟨x.ren (upS σ H.length), H.merge σ H', _, I', h1.ren (kapMerge_spec hnd hlt), m1, m2, x, H', h4, rfl, rfl⟩

/-- A function that needs no block, in any heap. -/
theorem ACalls.pure {P : Program} {G : Glob} {f : FuncId} {args : List AV} {H : AH} {Q : AEnd → Prop} (h : ACalls P G f (AV.rens (fun _ => none) args) [] (fun e H' => Q e ∧ H' = [])) :
    ACalls P G f args H (fun e H2 => (∃ e0, Q e0 ∧ e = e0.ren (fun _ => none)) ∧ H2 = H) := by
  intro κ I us w hg hr ha
  have e0 : posIn [] 0 = fun _ => none := by funext id; rfl
  have h0 : ACalls P G f (AV.rens (posIn [] 0) args) (H.keep 0 []) (fun e H' => Q e ∧ H' = []) := by
    rw [e0]; exact h
  have hk : keepS 0 [] = posIn [] 0 := by funext id; simp [keepS]
  have hc := hr.keep 0 [] (Nat.zero_le _) (fun x hx => by cases hx) List.nodup_nil
  have ha' : VRs I w (kapKeep κ 0 []) (AV.rens (posIn [] 0) args) us := by
    rw [← hk]
    exact ha.ren (kapKeep_spec κ 0 [])
  refine (h0 _ I us w hg hc ha').mono ?_
  rintro e w' ⟨x, H', κ', I', h1, h2, h3, h4, rfl⟩
  obtain ⟨m1, m2⟩ := hr.merge List.nodup_nil (by intro x hx; cases hx) h3 h2
  have em : H.merge [] [] = H := by simp [AH.merge, setAll]
  rw [em] at m1 m2
  exact ⟨x.ren (fun _ => none), H, _, I', h1.ren (by intro id j hh; cases hh), m1, m2, ⟨x, h4, rfl⟩, rfl⟩
end Go.Proofs.Ax
/- AX, part G: the table of types; operands; reading and writing. -/
set_option linter.unusedVariables false
set_option linter.unusedSimpArgs false
namespace Go.Proofs.Ax
open Go.RowKit

/-! ### Types -/
inductive ZV where
  | bool | int (k : IntKind) | str | slice | ptr | func | map | iface
  deriving DecidableEq
def ZV.av : ZV → AV
  | .bool => .bool false
  | .int k => .int k 0
  | .str => .str []
  | .slice => .nils
  | .ptr => .nilp
  | .func => .nilf
  | .map => .nilm
  | .iface => .nili
def ZV.val : ZV → Value
  | .bool => .bool false
  | .int k => .int k 0
  | .str => .string (ofL [])
  | .slice => .slice none 0 0
  | .ptr => .pointer none
  | .func => .nilFunc
  | .map => .map none
  | .iface => .nilIface
def ZV.is : ZV → Value → Bool
  | .bool, .bool b => b == false
  | .int k, .int k' n => k == k' && n == 0
  | .str, .string s => s.data.toList.isEmpty
  | .slice, .slice none 0 0 => true
  | .ptr, .pointer none => true
  | .func, .nilFunc => true
  | .map, .map none => true
  | .iface, .nilIface => true
  | _, _ => false
theorem ZV.is_spec {z : ZV} {v : Value} (h : z.is v = true) : v = z.val := by
  match z, v, h with
  | .bool, .bool b, h => simp [ZV.is] at h; subst h; rfl
  | .int k, .int k' n, h => simp [ZV.is] at h; obtain ⟨rfl, rfl⟩ := h; rfl
  | .str, .string ⟨⟨l⟩⟩, h => simp [ZV.is] at h; subst h; rfl
  | .slice, .slice none 0 0, h => rfl
  | .ptr, .pointer none, h => rfl
  | .func, .nilFunc, h => rfl
  | .map, .map none, h => rfl
  | .iface, .nilIface, h => rfl
theorem ZV.vr {I : Nat → Prop} {w : World} {κ : Kap} (z : ZV) : VR I w κ z.av z.val := by
  cases z
  · exact .bool
  · exact .int
  · exact .str (Nat.zero_le _)
  · exact .nils
  · exact .nilp
  · exact .nilf
  · exact .nilm
  · exact .nili
theorem ZV.one (z : ZV) : z.val.oneCell' = true := by cases z <;> rfl

inductive TD where
  | bool | int (k : IntKind) | str | ptr (e : Nat) | slice (e : Nat) | array (n e : Nat) | map (k e : Nat)
  | struct (fs : List (Nat × Nat × Nat))
  | func | iface | other | uptr
  deriving DecidableEq
structure TI where
  d : TD
  size : Nat
  bytes : Nat
  zero : List ZV
def TD.agg : TD → Bool
  | .struct _ | .array .. => true
  | _ => false

def fieldOk (P : Program) (f : Field) (x : Nat × Nat × Nat) : Bool := f.offset == x.1 && f.type == x.2.1 && (match P.info? f.type with | some i => i.size == x.2.2 | none => false) && f.name != "_" && x.2.2 != 0
def fieldsOk (P : Program) : List Field → List (Nat × Nat × Nat) → Bool
  | [], [] => true
  | f :: fs, x :: xs => fieldOk P f x && fieldsOk P fs xs
  | _, _ => false
def TD.ok (P : Program) : TD → TypeDesc → Bool
  | .bool, .bool => true
  | .int k, .int k' => k == k'
  | .str, .string => true
  | .ptr e, .pointer e' => e == e'
  | .slice e, .slice e' => e == e'
  | .array n e, .array n' e' => n == n' && e == e'
  | .map k e, .map k' e' => k == k' && e == e'
  | .struct fs, .struct fields => fieldsOk P fields.toList fs
  | .func, .func .. => true
  | .iface, .interface _ => true
  | .uptr, .unsafePointer => true
  | _, _ => false
def zerosOk : List Value → List ZV → Bool
  | [], [] => true
  | v :: vs, z :: zs => z.is v && zerosOk vs zs
  | _, _ => false
/-- Is what the table says of a type what the program says? -/
def TI.ok (P : Program) (t : Nat) (i : TI) : Bool :=
  match P.info? t, P.underlying t with
  | some j, some d => i.d.ok P d && j.size == i.size && j.bytes == i.bytes && (match j.zero with | some z => zerosOk z.cells.toList i.zero && z.cells.size == i.size && (if i.d.agg then (match z with | .agg _ => true | _ => false) else (match z with | .agg _ | .tuple _ => false | _ => true)) | none => false)
  | _, _ => false

abbrev TT := List (Nat × TI)
def TT.ok (P : Program) (T : TT) : Bool := T.all fun x => x.2.ok P x.1

theorem TT.ok_get {P : Program} {T : TT} (h : T.ok P = true) {t : Nat} {i : TI} (hi : T.lookup t = some i) : i.ok P t = true := by
  have : (t, i) ∈ T := by
    clear h
    induction T with
    | nil => cases hi
    | cons p l ih =>
      obtain ⟨j, y⟩ := p
      simp only [List.lookup] at hi
      by_cases e : t = j
      · subst e
        simp only [beq_self_eq_true, Option.some.injEq] at hi
        subst hi
        exact List.mem_cons_self
      · have e' : (t == j) = false := by simpa using e
        rw [e'] at hi
        exact List.mem_cons_of_mem _ (ih hi)
  have := (List.all_eq_true.1 h) _ this
  exact this

theorem zerosOk_spec : ∀ {vs : List Value} {zs : List ZV}, zerosOk vs zs = true → vs = zs.map ZV.val := by
  intro vs
  induction vs with
  | nil => intro zs h; cases zs <;> first | rfl | cases h
  | cons v vs ih =>
    intro zs h
    cases zs with
    | nil => cases h
    | cons z zs =>
      simp only [zerosOk, Bool.and_eq_true] at h
      rw [List.map_cons, ← ih h.2, ZV.is_spec h.1]

/-- What the table gives of a type. -/
structure TyIs (P : Program) (t : Nat) (i : TI) : Prop where
  info : ∃ j, P.info? t = some j ∧ j.size = i.size ∧ j.bytes = i.bytes ∧ ∃ z, j.zero = some z ∧ z.cells.toList = i.zero.map ZV.val ∧ z.cells.size = i.size ∧ (i.d.agg = true → z = .agg z.cells) ∧ (i.d.agg = false → z.oneCell' = true)
  desc : ∃ d, P.underlying t = some d ∧ i.d.ok P d = true

theorem TI.ok_spec {P : Program} {t : Nat} {i : TI} (h : i.ok P t = true) : TyIs P t i := by
  unfold TI.ok at h
  split at h
  · rename_i j d hj hd
    simp only [Bool.and_eq_true, beq_iff_eq] at h
    obtain ⟨⟨⟨h1, h2⟩, h3⟩, h4⟩ := h
    refine ⟨⟨j, hj, h2, h3, ?_⟩, d, hd, h1⟩
    split at h4
    · rename_i z hz
      simp only [Bool.and_eq_true, beq_iff_eq] at h4
      obtain ⟨⟨h5, h6⟩, h7⟩ := h4
      refine ⟨z, hz, zerosOk_spec h5, h6, fun ha => ?_, fun ha => ?_⟩
      · rw [ha] at h7
        cases z <;> simp at h7
        rfl
      · rw [ha] at h7
        cases z <;> simp at h7 <;> rfl
    · cases h4
  · cases h

theorem TyIs.zlen {P : Program} {t : Nat} {i : TI} (h : TyIs P t i) : i.zero.length = i.size := by
  obtain ⟨j, _, _, _, z, _, h1, h2, _⟩ := h.info
  have : z.cells.toList.length = i.zero.length := by rw [h1, List.length_map]
  rw [← this, Array.length_toList, h2]

theorem TyIs.run_size {P : Program} {t : Nat} {i : TI} (h : TyIs P t i) (w : World) : (sizeOf t).run P w = .ok i.size w := by
  obtain ⟨j, h1, h2, _⟩ := h.info
  simp [sizeOf, typeInfo, h1, h2]

theorem TyIs.run_agg {P : Program} {t : Nat} {i : TI} (h : TyIs P t i) (w : World) : (isAgg t).run P w = .ok i.d.agg w := by
  obtain ⟨d, h1, h2⟩ := h.desc
  unfold isAgg
  rw [Sem.run_bind, run_underlying h1]
  cases hd : i.d <;> rw [hd] at h2 <;> cases d <;> simp [TD.ok] at h2 <;> rfl

theorem TyIs.scalar {P : Program} {t : Nat} {i : TI} (h : TyIs P t i) (ha : i.d.agg = false) : i.size = 1 := by
  obtain ⟨j, _, _, _, z, _, _, h2, _, h4⟩ := h.info
  have := h4 ha
  rw [← h2]
  cases z <;> simp [Value.oneCell'] at this <;> rfl

/-! ### Operands -/
def absC1 : Value → AV
  | .bool b => .bool b
  | .int k n => .int k n
  | .string s => if s.size ≤ 65536 then .str s.data.toList else .any
  | .pointer none => .nilp
  | .slice none 0 0 => .nils
  | .nilFunc => .nilf
  | .map none => .nilm
  | .nilIface => .nili
  | _ => .any
def absC : Value → AV
  | .agg cs => .agg (cs.toList.map absC1)
  | .iface t v => .iface t (absC1 v)
  | v => absC1 v

theorem vr_absC1 {I : Nat → Prop} {w : World} {κ : Kap} (v : Value) : VR I w κ (absC1 v) v := by
  unfold absC1
  split
  · exact .bool
  · exact .int
  · split
    · rename_i s hs
      have := VR.str (I := I) (w := w) (κ := κ) (s := s.data.toList) (by
        have e : s.data.toList.length = s.size := rfl
        unfold maxLen
        omega)
      rwa [ofL_self] at this
    · exact .any
  · exact .nilp
  · exact .nils
  · exact .nilf
  · exact .nilm
  · exact .nili
  · exact .any
theorem vr_absC {I : Nat → Prop} {w : World} {κ : Kap} (v : Value) : VR I w κ (absC v) v := by
  unfold absC
  split
  · rename_i cs
    have := VR.agg (I := I) (w := w) (κ := κ) (cs := cs.toList.map absC1) (us := cs.toList) (by simp) (fun i x hx => by
      rw [List.getElem?_map] at hx
      obtain ⟨y, hy, rfl⟩ := Option.map_eq_some_iff.1 hx
      simp only [List.getD, hy, Option.getD_some]
      exact vr_absC1 y)
    exact this
  · exact .iface (vr_absC1 _)
  · exact vr_absC1 _

def aeval (G : Glob) (fr : Fr) : Operand → AV
  | .tmp t => fr.get t
  | .const v => absC v
  | .global g => (G g).getD .any
  | .func f => .func (.func f) [] []

theorem GRel.any {I : Nat → Prop} {w : World} {G : Glob} (hg : GRel I w G) {κ : Kap} (g : Nat) : VR I w κ ((G g).getD .any) (.pointer (some ⟨g, 0, none⟩)) := by
  cases hk : G g with
  | none => exact .any
  | some x => exact (hg g x hk).1.mono (fun _ h => h) (fun _ _ => rfl) (fun _ _ h => by cases h)

theorem aeval_vr {I : Nat → Prop} {w : World} {κ : Kap} {G : Glob} {fr : Fr} {a : Act} (hg : GRel I w G) (hf : FRel I w κ fr a) (x : Operand) : VR I w κ (aeval G fr x) (a.eval x) := by
  cases x with
  | tmp t => exact hf.get t
  | const v => exact vr_absC v
  | global g => exact hg.any g
  | func f => exact .func rfl rfl (fun i x hx => by simp at hx) (fun i x hx => by simp at hx)
end Go.Proofs.Ax
/- AX, part H: operations that make, read and write memory. -/
set_option linter.unusedVariables false
set_option linter.unusedSimpArgs false
namespace Go.Proofs.Ax
open Go.RowKit

def OpOk (P : Program) (G : Glob) (o : Oper) (fr : Fr) (H : AH) (v : AV) (H' : AH) : Prop :=
  ∀ κ I a w, GRel I w G → HRel κ I H w → FRel I w κ fr a → ∃ u κ' I' w', ((execOp a.eval o).run P w = .ok (.value u) w' ∨ ((execOp a.eval o).run P w = .ok .skip w' ∧ u = undef)) ∧ VR I' w' κ' v u ∧ HRel κ' I' H' w' ∧ Stp κ I H w κ' I' H' w'

section
variable {P : Program} {G : Glob} {o : Oper} {fr : Fr} {H : AH}

theorem OpOk.here {v : AV} (h : ∀ κ I a w, GRel I w G → HRel κ I H w → FRel I w κ fr a → ∃ u, (execOp a.eval o).run P w = .ok (.value u) w ∧ VR I w κ v u) : OpOk P G o fr H v H :=
  fun κ I a w hg hr hf => let ⟨u, h1, h2⟩ := h κ I a w hg hr hf; ⟨u, κ, I, w, .inl h1, h2, hr, Stp.refl ..⟩

theorem op_move {x : Operand} (ho : o.op = .move x ∨ o.op = .assign x) : OpOk P G o fr H (aeval G fr x) H :=
  .here fun κ I a w hg hr hf => ⟨a.eval x, by rcases ho with ho | ho <;> simp [execOp, ho], aeval_vr hg hf x⟩

def apick (b : Bool) (x y : AV) : AV :=
  match x, y with
  | .bool p, .bool q => .bool (bif b then p else q)
  | _, _ => bif b then x else y
theorem op_pick {c x y : Operand} (ho : o.op = .pick c x y) {b : Bool} (hb : aeval G fr c = .bool b) : OpOk P G o fr H (apick b (aeval G fr x) (aeval G fr y)) H :=
  .here fun κ I a w hg hr hf => by
    have h1 := aeval_vr hg hf c
    rw [hb] at h1
    have e : a.eval c = .bool b := by generalize a.eval c = v at h1; cases h1; rfl
    have hx := aeval_vr hg hf x
    have hy := aeval_vr hg hf y
    refine ⟨if b then a.eval x else a.eval y, by simp [execOp, ho, e, asBool], ?_⟩
    unfold apick
    split
    · rename_i p q h2 h3
      rw [h2] at hx; rw [h3] at hy
      cases b
      · exact hy
      · exact hx
    · cases b
      · exact hy
      · exact hx

/-! ### New memory -/
def cellsOf : AV → List AV
  | .agg cs => cs
  | v => [v]

/-- A variable in new memory. -/
theorem new_var {κ : Kap} {I : Nat → Prop} {w : World} (hr : HRel κ I H w) (t sz : Nat) (cs : List AV) (us : List Value) (hl : cs.length = sz) (hl' : us.length = sz) (h1 : ∀ u ∈ us, u.oneCell' = true)
    (h : ∀ j x, cs[j]? = some x → VR I w κ x (us.getD j undef)) :
    ∃ κ', HRel κ' I (H ++ [.row t sz [cs]]) (w.alloc (.cells ⟨us⟩ t)) ∧ Stp κ I H w κ' I (H ++ [.row t sz [cs]]) (w.alloc (.cells ⟨us⟩ t)) ∧ VR I (w.alloc (.cells ⟨us⟩ t)) κ' (.ptr H.length 0 0 1) (.pointer (some ⟨w.heap.size, 0, none⟩)) := by
  have hk : ∀ b, b < w.heap.size → (w.alloc (.cells ⟨us⟩ t)).heap[b]? = w.heap[b]? := fun b hb => heap_alloc_old w _ b hb
  have hx : Ext κ (upd κ H.length ⟨.slice (some ⟨w.heap.size, 0, none⟩) 1 1, 1, sz⟩) := Ext.upd_new _ hr.new_none
  obtain ⟨h2, h3⟩ := hr.push (w' := w.alloc (.cells ⟨us⟩ t)) (B := .row t sz [cs]) (c := ⟨.slice (some ⟨w.heap.size, 0, none⟩) 1 1, 1, sz⟩) rfl rfl rfl (by simp) hk (by intro b hb; simp [hblk] at hb; omega)
    ⟨_, us, upd_same _ _ _, rfl, rfl, ⟨by simp [hl'], .inr ⟨w.heap.size, 1, ⟨us⟩, rfl, Nat.zero_le _, heap_alloc_new w _, Nat.le_refl _, by unfold maxLen; omega, by simp [hl'], by simp [List.take_of_length_le (Nat.le_of_eq hl')]⟩⟩,
      by simpa using hl, h1, fun j x hx' => (h j x (by simpa using hx')).mono (fun _ x => x) (fun b hb => hk b (hr.sep b hb).1) hx⟩
  exact ⟨_, h2, h3, .ptr _ (upd_same _ _ _) (Nat.le_refl _) ⟨_, rfl⟩ fun _ => ⟨w.heap.size, 1, 1, rfl, by simp⟩⟩

theorem op_alloc {t : Nat} (ho : o.op = .alloc t) {i : TI} (hi : TyIs P t i) : OpOk P G o fr H (.ptr H.length 0 0 1) (H ++ [.row t i.size [i.zero.map ZV.av]]) := by
  intro κ I a w hg hr hf
  obtain ⟨j, h1, h2, h3, z, h4, h5, h6, h7, h8⟩ := hi.info
  obtain ⟨κ', m1, m2, m3⟩ := new_var hr t i.size (i.zero.map ZV.av) (i.zero.map ZV.val) (by simp [hi.zlen]) (by simp [hi.zlen]) (by
    intro u hu
    obtain ⟨y, _, rfl⟩ := List.mem_map.1 hu
    exact y.one) (by
    intro j x hx
    rw [List.getElem?_map] at hx
    obtain ⟨y, hy, rfl⟩ := Option.map_eq_some_iff.1 hx
    simp only [List.getD, List.getElem?_map, hy, Option.map_some, Option.getD_some]
    exact y.vr)
  refine ⟨_, κ', I, _, .inl ?_, m3, m1, m2⟩
  have e : z.cells = ⟨i.zero.map ZV.val⟩ := by rw [← h5]
  simp [execOp, ho, Instr.alloc, zeroValue, typeInfo, h1, h4, newVar, newRow, e]

/-- Is it one cell's value, for sure? -/
def AV.cell : AV → Bool
  | .any | .agg _ | .tuple _ => false
  | _ => true
/-- Is it a variable's value, for sure? -/
def AV.cells : AV → Bool
  | .agg cs => cs.all AV.cell
  | x => x.cell

theorem vr_one {I : Nat → Prop} {w : World} {κ : Kap} {x : AV} {v : Value} (h : VR I w κ x v) (hx : x.cell = true) : v.oneCell' = true ∧ v.cells = #[v] := by
  cases h <;> first | (cases hx; done) | exact ⟨rfl, rfl⟩ | skip
  · rename_i c hc hst hp h; obtain ⟨ad, rfl⟩ := hp; exact ⟨rfl, rfl⟩
  · rename_i c hc hst hl h; obtain ⟨ad, cp, rfl⟩ := hl; exact ⟨rfl, rfl⟩
  · rename_i c hc hv h; rcases hv with ⟨r, rfl⟩ | ⟨ad, rfl⟩ <;> exact ⟨rfl, rfl⟩
  · rename_i c hst hc hl h; obtain ⟨ad, cp, rfl⟩ := hl; exact ⟨rfl, rfl⟩
  · rename_i c hc hv h; obtain ⟨l, rfl⟩ := hv; exact ⟨rfl, rfl⟩

theorem vr_cells {I : Nat → Prop} {w : World} {κ : Kap} {x : AV} {v : Value} (h : VR I w κ x v) (hx : x.cells = true) :
    v.cells.toList.length = (cellsOf x).length ∧ (∀ u ∈ v.cells.toList, u.oneCell' = true) ∧ ∀ j y, (cellsOf x)[j]? = some y → VR I w κ y (v.cells.toList.getD j undef) := by
  by_cases hc : x.cell = true
  · obtain ⟨h1, h2⟩ := vr_one h hc
    have e : cellsOf x = [x] := by cases x <;> first | rfl | cases hc
    rw [h2, e]
    refine ⟨rfl, fun u hu => by simp at hu; subst hu; exact h1, fun j y hj => ?_⟩
    cases j with
    | zero => simp at hj; subst hj; exact h
    | succ j => simp at hj
  · cases h <;> simp only [AV.cells] at hx <;> first | (exact absurd hx hc) | skip
    rename_i cs us h1 h2
    refine ⟨h1, fun u hu => ?_, h2⟩
    obtain ⟨j, hj, rfl⟩ := List.mem_iff_getElem.1 hu
    have hj' : j < cs.length := by
      have : us.length = cs.length := h1
      have hj2 : j < us.length := hj
      omega
    have hv := h2 j cs[j] (List.getElem?_eq_getElem hj')
    have := (vr_one hv (List.all_eq_true.1 hx _ (List.getElem_mem hj'))).1
    have hj2 : j < us.length := hj
    have e : us.getD j undef = us[j] := by simp [List.getD, List.getElem?_eq_getElem hj2]
    rw [e] at this
    exact this

theorem op_box {t : Nat} {x : Operand} (ho : o.op = .box t x) {sz : Nat} (hc : (aeval G fr x).cells = true) (hl : (cellsOf (aeval G fr x)).length = sz) : OpOk P G o fr H (.ptr H.length 0 0 1) (H ++ [.row t sz [cellsOf (aeval G fr x)]]) := by
  intro κ I a w hg hr hf
  obtain ⟨h1, h2, h3⟩ := vr_cells (aeval_vr hg hf x) hc
  obtain ⟨κ', m1, m2, m3⟩ := new_var hr t sz (cellsOf (aeval G fr x)) (a.eval x).cells.toList hl (by rw [h1, hl]) h2 h3
  exact ⟨_, κ', I, _, .inl (by simp [execOp, ho, Instr.box, newVar, newRow]), m3, m1, m2⟩

/-! ### Reading -/
theorem flat_len {elems : List (List AV)} {sz : Nat} (h : ∀ e ∈ elems, e.length = sz) : elems.flatten.length = elems.length * sz := by
  induction elems with
  | nil => simp
  | cons x l ih =>
    simp only [List.flatten_cons, List.length_append, List.length_cons]
    rw [ih (fun el hel => h el (List.mem_cons_of_mem _ hel)), h x List.mem_cons_self, Nat.add_mul]
    omega

theorem flat_get {elems : List (List AV)} {sz : Nat} (h : ∀ e ∈ elems, e.length = sz) : ∀ {k j : Nat}, k < elems.length → j < sz → elems.flatten[k * sz + j]? = (elems.getD k [])[j]? := by
  induction elems with
  | nil => intro k j hk; simp at hk
  | cons x l ih =>
    intro k j hk hj
    have hx := h x List.mem_cons_self
    cases k with
    | zero => simp [List.getElem?_append_left (show j < x.length by omega)]
    | succ k =>
      have e : (k + 1) * sz + j = x.length + (k * sz + j) := by rw [hx, Nat.add_mul]; omega
      rw [List.flatten_cons, e, List.getElem?_append_right (by omega), Nat.add_sub_cancel_left]
      rw [ih (fun el hel => h el (List.mem_cons_of_mem _ hel)) (by simpa using hk) hj]
      simp [List.getD]

/-- At this address cells can be read that stand for el's from off on. -/
def RdAt (I : Nat → Prop) (w : World) (κ : Kap) (el : List AV) (off n : Nat) (v : Value) : Prop :=
  ∃ b o, v = .pointer (some ⟨b, o, none⟩) ∧ ∀ j, j < n → ∃ u, w.cell? ⟨b, o + j, none⟩ = some u ∧ u.oneCell' = true ∧ ∀ x, el[off + j]? = some x → VR I w κ x u

theorem cell_add (b o j : Nat) : (⟨b, o, none⟩ : Addr).add j = ⟨b, o + j, none⟩ := by unfold Addr.add; split <;> simp_all

theorem rd_ptr {κ : Kap} {I : Nat → Prop} {w : World} (hr : HRel κ I H w) {id k off st e sz n : Nat} {elems : List (List AV)} {v : Value} (hB : H[id]? = some (.row e sz elems)) (hv : VR I w κ (.ptr id k off st) v)
    (hst : st = elems.length) (hk : k < elems.length) (hn : off + n ≤ sz) : RdAt I w κ (elems.getD k []) off n v := by
  obtain ⟨c, us, hc, h1, h2, ⟨h3, h4⟩, h5, h6, h7⟩ := hr.ok id _ hB
  cases hv with
  | ptr c' hc' hst' hp h =>
    obtain rfl : c' = c := by rw [hc] at hc'; cases hc'; rfl
    obtain ⟨b, m, cp, e1, e2⟩ := h (by omega)
    refine ⟨b, k * c'.sz + off, e2, fun j hj => ?_⟩
    rw [h2]
    have hidx : k * sz + (off + j) < elems.length * sz := by
      have : (k + 1) * sz ≤ elems.length * sz := Nat.mul_le_mul_right _ hk
      rw [Nat.add_mul] at this
      omega
    have hlt : k * sz + (off + j) < us.length := by rw [h3]; exact hidx
    have hu : us[k * sz + (off + j)]? = some us[k * sz + (off + j)] := List.getElem?_eq_getElem hlt
    have hcell := World.ownsRow.cells (g := b) ⟨h3, h4⟩ (by rw [e1]; rfl) _ _ hu
    rw [cell_add, Nat.zero_add] at hcell
    refine ⟨us[k * sz + (off + j)], by rw [Nat.add_assoc]; exact hcell, h6 _ (List.getElem_mem hlt), fun x hx => ?_⟩
    rw [← flat_get h5 hk (show off + j < sz by omega)] at hx
    have := h7 _ x hx
    simpa [List.getD, hu] using this

theorem rd_lptr {κ : Kap} {I : Nat → Prop} {w : World} {elems : List (List AV)} {k off n : Nat} {v : Value} (hv : VR I w κ (.lptr elems k off) v) (hk : k < elems.length) (hn : off + n ≤ (elems.getD k []).length) : RdAt I w κ (elems.getD k []) off n v := by
  cases hv with
  | lptr b o sz us hb hsz hc h1 h =>
    refine ⟨b, o + (k * sz + off), rfl, fun j hj => ?_⟩
    have hel : (elems.getD k []).length = sz := hsz _ (by simp [List.getD, List.getElem?_eq_getElem hk])
    have hidx : k * sz + (off + j) < elems.length * sz := by
      have : (k + 1) * sz ≤ elems.length * sz := Nat.mul_le_mul_right _ hk
      rw [Nat.add_mul] at this
      omega
    refine ⟨us (k * sz + (off + j)), ?_, h1 _ hidx, fun x hx => ?_⟩
    · have := hc _ hidx
      rw [show o + (k * sz + off) + j = o + (k * sz + (off + j)) by omega]
      exact this
    · rw [← flat_get hsz hk (show off + j < sz by omega)] at hx
      exact (h _ x hx).mono (fun _ h => h) (fun _ _ => rfl) (fun _ _ h => by cases h)

/-- What is read of an element's cells: a scalar, or an aggregate of n cells. -/
def rdV (agg : Bool) (n : Nat) (el : List AV) (off : Nat) : AV := if agg then .agg ((el.drop off).take n) else el.getD off .any

theorem load_rd {κ : Kap} {I : Nat → Prop} {w : World} {t : Nat} {i : TI} (hi : TyIs P t i) {el : List AV} {off : Nat} {v : Value} (hv : RdAt I w κ el off i.size v) (hel : off + i.size ≤ el.length) :
    ∃ u, (Instr.loadAt t v).run P w = .ok u w ∧ VR I w κ (rdV i.d.agg i.size el off) u := by
  obtain ⟨b, ov, rfl, h⟩ := hv
  cases ha : i.d.agg with
  | false =>
    have hs := hi.scalar ha
    obtain ⟨u, h1, h2, h3⟩ := h 0 (by omega)
    rw [Nat.add_zero] at h1
    refine ⟨u, ?_, ?_⟩
    · simp [Instr.loadAt, Instr.sureAddr, loadVar, hi.run_agg, ha, h1]
    · have hlt : off < el.length := by omega
      simp only [rdV, Bool.false_eq_true, if_false, List.getD, List.getElem?_eq_getElem hlt, Option.getD_some]
      exact h3 _ (by simp [List.getElem?_eq_getElem hlt])
  | true =>
    have hf : ∀ j, ∃ u, j < i.size → w.cell? ⟨b, ov + j, none⟩ = some u ∧ u.oneCell' = true ∧ ∀ x, el[off + j]? = some x → VR I w κ x u := fun j => by
      by_cases hj : j < i.size
      · obtain ⟨u, hu⟩ := h j hj; exact ⟨u, fun _ => hu⟩
      · exact ⟨undef, fun hh => absurd hh hj⟩
    obtain ⟨f, hf⟩ := Classical.axiomOfChoice hf
    refine ⟨.agg ⟨(List.range i.size).map f⟩, ?_, ?_⟩
    · have := run_loadCells (P := P) w ⟨b, ov, none⟩ i.size f (fun j hj => by rw [cell_add]; exact (hf j hj).1)
      simp [Instr.loadAt, Instr.sureAddr, loadVar, hi.run_agg, ha, hi.run_size, this]
    · simp only [rdV, if_true]
      refine .agg (by simp; omega) (fun j x hx => ?_)
      have hj : j < i.size := by
        have := (List.getElem?_eq_some_iff.1 hx).1
        simp at this
        omega
      rw [List.getElem?_take, if_pos hj, List.getElem?_drop] at hx
      have := (hf j hj).2.2 x hx
      simpa [List.getD, hj] using this

theorem op_load_ptr {t : Nat} {x : Operand} (ho : o.op = .load t x) {i : TI} (hi : TyIs P t i) {id k off st e sz : Nat} {elems : List (List AV)} (hx : aeval G fr x = .ptr id k off st) (hB : H[id]? = some (.row e sz elems))
    (hst : st = elems.length) (hk : k < elems.length) (hn : off + i.size ≤ sz) : OpOk P G o fr H (rdV i.d.agg i.size (elems.getD k []) off) H :=
  .here fun κ I a w hg hr hf => by
    have hv := aeval_vr hg hf x
    rw [hx] at hv
    obtain ⟨c, us, hc, h1, h2, h3, h5, h6, h7⟩ := hr.ok id _ hB
    have hel : (elems.getD k []).length = sz := h5 _ (by simp [List.getD, List.getElem?_eq_getElem hk])
    obtain ⟨u, e1, e2⟩ := load_rd (P := P) hi (rd_ptr hr hB hv hst hk hn) (by omega)
    exact ⟨u, by simp [execOp, ho, e1], e2⟩
theorem op_load_lptr {t : Nat} {x : Operand} (ho : o.op = .load t x) {i : TI} (hi : TyIs P t i) {k off : Nat} {elems : List (List AV)} (hx : aeval G fr x = .lptr elems k off)
    (hk : k < elems.length) (hn : off + i.size ≤ (elems.getD k []).length) : OpOk P G o fr H (rdV i.d.agg i.size (elems.getD k []) off) H :=
  .here fun κ I a w hg hr hf => by
    have hv := aeval_vr hg hf x
    rw [hx] at hv
    obtain ⟨u, e1, e2⟩ := load_rd (P := P) hi (rd_lptr hv hk hn) hn
    exact ⟨u, by simp [execOp, ho, e1], e2⟩
end
end Go.Proofs.Ax
/- AX, part I: writing; addresses; parts of values; simple operations. -/
set_option linter.unusedVariables false
set_option linter.unusedSimpArgs false
namespace Go.Proofs.Ax
open Go.RowKit

section
variable {P : Program} {G : Glob} {o : Oper} {fr : Fr} {H : AH}

/-- Cells in place of others. -/
def splice (l : List AV) (at_ : Nat) (vs : List AV) : List AV := l.take at_ ++ vs ++ l.drop (at_ + vs.length)

theorem splice_get {α : Type} (l vs : List α) (n j : Nat) (h : n + vs.length ≤ l.length) :
    (l.take n ++ vs ++ l.drop (n + vs.length))[j]? = if n ≤ j ∧ j < n + vs.length then vs[j - n]? else l[j]? := by
  by_cases h1 : j < n
  · rw [if_neg (by omega), List.append_assoc, List.getElem?_append_left (by simp; omega), List.getElem?_take, if_pos h1]
  · by_cases h2 : j < n + vs.length
    · rw [if_pos ⟨by omega, h2⟩, List.append_assoc, List.getElem?_append_right (by simp; omega), List.getElem?_append_left (by simp; omega)]
      simp [Nat.min_eq_left (show n ≤ l.length by omega)]
    · rw [if_neg (by omega), List.getElem?_append_right (by simp; omega), List.getElem?_drop]
      congr 1
      simp [Nat.min_eq_left (show n ≤ l.length by omega)]
      omega

theorem splice_flat {elems : List (List AV)} {sz k off : Nat} {vs : List AV} (h : ∀ e ∈ elems, e.length = sz) (hk : k < elems.length) (hn : off + vs.length ≤ sz) (j : Nat) :
    (elems.set k (splice (elems.getD k []) off vs)).flatten[j]? = if k * sz + off ≤ j ∧ j < k * sz + off + vs.length then vs[j - (k * sz + off)]? else elems.flatten[j]? := by
  induction elems generalizing k j with
  | nil => simp at hk
  | cons x l ih =>
    have hx := h x List.mem_cons_self
    have hl : ∀ e ∈ l, e.length = sz := fun el hel => h el (List.mem_cons_of_mem _ hel)
    cases k with
    | zero =>
      have hlen : (splice x off vs).length = sz := by simp [splice]; omega
      simp only [List.set_cons_zero, List.flatten_cons, Nat.zero_mul, Nat.zero_add, List.getD_cons_zero]
      by_cases hj : j < sz
      · rw [List.getElem?_append_left (by omega), List.getElem?_append_left (by omega)]
        exact splice_get x vs off j (by omega)
      · rw [List.getElem?_append_right (by omega), List.getElem?_append_right (by omega), if_neg (by omega), hlen, hx]
    | succ k =>
      have e : (k + 1) * sz = sz + k * sz := by rw [Nat.add_mul]; omega
      simp only [List.set_cons_succ, List.flatten_cons, List.getD_cons_succ]
      by_cases hj : j < sz
      · rw [List.getElem?_append_left (by omega), List.getElem?_append_left (by omega), if_neg (by omega)]
      · rw [List.getElem?_append_right (by omega), List.getElem?_append_right (by omega), hx, ih hl (by simpa using hk)]
        have e2 : j - sz - (k * sz + off) = j - ((k + 1) * sz + off) := by omega
        rw [e2]
        by_cases hc : k * sz + off ≤ j - sz ∧ j - sz < k * sz + off + vs.length
        · rw [if_pos hc, if_pos (by omega)]
        · rw [if_neg hc, if_neg (by omega)]

theorem run_storeCells (P : Program) (g : Nat) (e : TypeId) : ∀ (news : List Value) (at_ : Nat) (cur : Array Value) (w : World) (i : Nat), w.heap[g]? = some (.cells cur e (0, 0)) → at_ + i + news.length ≤ cur.size → (∀ u ∈ news, u.oneCell' = true) →
    ∃ cur', (storeCells ⟨g, at_, none⟩ news i).run P w = .ok () (w.setRow g cur') ∧ cur'.size = cur.size ∧ ∀ j : Nat, cur'[j]? = if at_ + i ≤ j ∧ j < at_ + i + news.length then news[j - (at_ + i)]? else cur[j]? := by
  intro news
  induction news with
  | nil =>
    intro at_ cur w i hg hfit h1
    refine ⟨cur, ?_, rfl, fun j => by rw [if_neg (by simp only [List.length_nil]; omega)]⟩
    have : w.setRow g cur = w := by
      cases w with
      | mk heap tape drawn os output =>
        simp only [World.setRow, World.mk.injEq, and_true]
        apply Array.ext_getElem?
        intro j
        rw [Array.getElem?_modify]
        split
        · rename_i e; subst e; simp only at hg; rw [hg]; rfl
        · rfl
    simp [storeCells, this]
  | cons v news ih =>
    intro at_ cur w i hg hfit h1
    simp only [List.length_cons] at hfit
    have hv := h1 v List.mem_cons_self
    have hidx : at_ + i < cur.size := by omega
    have hcell : w.cell? ⟨g, at_ + i, none⟩ = some cur[at_ + i] := by rw [cell_of_row w g _ cur e (0, 0) hg]; exact Array.getElem?_eq_getElem hidx
    have hfz := frozen_of_row w g (at_ + i) cur e hg
    have hset := heap_setCell_same w g (at_ + i) cur e v hg
    obtain ⟨cur', h2, h3, h4⟩ := ih at_ (cur.setIfInBounds (at_ + i) v) (w.setCell ⟨g, at_ + i, none⟩ v) (i + 1) hset (by simp; omega) (fun u hu => h1 u (List.mem_cons_of_mem _ hu))
    refine ⟨cur', ?_, by simpa using h3, fun j => ?_⟩
    · simp only [storeCells, Sem.run_bind, cell_add, run_store P w _ v _ hv, hcell, hfz, Bool.false_eq_true, if_false, Result.andThen_ok, h2]
      congr 1
      rw [setCell_eq_setRow w g (at_ + i) cur e (0, 0) v hg]
      cases w with
      | mk heap tape drawn os output =>
        simp only [World.setRow, World.mk.injEq, and_true]
        apply Array.ext_getElem?
        intro j
        simp only [Array.getElem?_modify]
        split
        · rename_i e; subst e; cases heap[g]? with
          | none => rfl
          | some ob => cases ob <;> rfl
        · rfl
    · rw [h4 j]
      by_cases hj : j = at_ + i
      · subst hj
        rw [if_neg (by omega), if_pos (by simp)]
        simp [hidx]
      · by_cases hc : at_ + (i + 1) ≤ j ∧ j < at_ + (i + 1) + news.length
        · rw [if_pos hc, if_pos (by simp; omega)]
          have : j - (at_ + i) = (j - (at_ + (i + 1))) + 1 := by omega
          rw [this, List.getElem?_cons_succ]
        · rw [if_neg hc, if_neg (by simp; omega), Array.getElem?_setIfInBounds_ne (by omega)]

/-- A store into a block of the call's own. -/
theorem store_row {κ : Kap} {I : Nat → Prop} {w : World} (hr : HRel κ I H w) {id k off st e sz : Nat} {elems : List (List AV)} {v u : Value} {x : AV} (hB : H[id]? = some (.row e sz elems)) (hv : VR I w κ (.ptr id k off st) v)
    (hst : st = elems.length) (hk : k < elems.length) {t : Nat} {i : TI} (hi : TyIs P t i) (hx : x.cells = true) (hl : (cellsOf x).length = i.size) (hn : off + i.size ≤ sz) (hu : VR I w κ x u) :
    ∃ κ' w', (Instr.storeAt t v u).run P w = .ok () w' ∧ HRel κ' I (H.set id (.row e sz (elems.set k (splice (elems.getD k []) off (cellsOf x))))) w' ∧ Stp κ I H w κ' I (H.set id (.row e sz (elems.set k (splice (elems.getD k []) off (cellsOf x))))) w' := by
  obtain ⟨c, us, hc, h1, h2, ⟨h3, h4⟩, h5, h6, h7⟩ := hr.ok id _ hB
  obtain ⟨q1, q2, q3⟩ := vr_cells hu hx
  cases hv with
  | ptr c' hc' hst' hp h =>
    obtain rfl : c' = c := by rw [hc] at hc'; cases hc'; rfl
    obtain ⟨b, m, cp, e1, e2⟩ := h (by omega)
    rcases h4 with ⟨e3, _⟩ | ⟨g, cap, cur, e3, e4, e5, e6, e7, e8, e9⟩
    · rw [e1] at e3; cases e3
    · rw [e1] at e3
      cases e3
      rw [h2] at e2
      subst e2
      have hidx : k * sz + off + i.size ≤ elems.length * sz := by
        have : (k + 1) * sz ≤ elems.length * sz := Nat.mul_le_mul_right _ hk
        rw [Nat.add_mul] at this
        omega
      have hcapsz : elems.length * sz ≤ cp * sz := Nat.mul_le_mul_right _ e6
      have hlen : u.cells.toList.length = i.size := by rw [q1, hl]
      obtain ⟨cur', r1, r2, r3⟩ := run_storeCells P b e u.cells.toList (k * sz + off) cur w 0 e5 (by rw [hlen]; omega) q2
      simp only [Nat.add_zero] at r3
      have hrun : (Instr.storeAt t (.pointer (some ⟨b, k * sz + off, none⟩)) u).run P w = .ok () (w.setRow b cur') := by
        have : u.cells.size = i.size := by rw [← hlen, Array.length_toList]
        simp [Instr.storeAt, Instr.sureAddr, storeVar, hi.run_size, this, r1]
      have hown' : ∀ b', b' < w.heap.size → hblk c'.hdr ≠ some b' → (w.setRow b cur').heap[b']? = w.heap[b']? := by
        intro b' _ hne
        refine setRow_other w b b' cur' (fun ee => hne ?_)
        rw [e1, ee]
        rfl
      have hxx : Ext κ (upd κ id c') := by
        intro j y hy
        by_cases ee : j = id
        · subst ee
          rw [hc] at hy; cases hy
          exact ⟨_, upd_same _ _ _, Nat.le_refl _, fun _ => rfl⟩
        · exact ⟨y, by rw [upd_ne _ _ ee]; exact hy, Nat.le_refl _, fun _ => rfl⟩
      have hImm : ∀ b', I b' → (w.setRow b cur').heap[b']? = w.heap[b']? := fun b' hb' => by
        refine hown' b' (hr.sep b' hb').1 fun ee => (hr.sep b' hb').2 ⟨id, _, c', hB, rfl, hc, ee⟩
      have hnews : ∀ j, (cur'.toList.take (elems.length * sz))[j]? = if k * sz + off ≤ j ∧ j < k * sz + off + i.size then u.cells.toList[j - (k * sz + off)]? else us[j]? := by
        intro j
        rw [List.getElem?_take, ← e9, List.getElem?_take]
        by_cases hj : j < elems.length * sz
        · rw [if_pos hj, if_pos hj, Array.getElem?_toList, r3 j, hlen]; simp only [Array.getElem?_toList]
        · rw [if_neg hj, if_neg hj, if_neg (by omega)]
      have hBk : BOk I (w.setRow b cur') (upd κ id c') id (.row e sz (elems.set k (splice (elems.getD k []) off (cellsOf x)))) := by
        refine ⟨c', cur'.toList.take (elems.length * sz), upd_same _ _ _, by simpa using h1, h2,
          ⟨by simp; omega, .inr ⟨b, cp, cur', by simpa using e1, Nat.zero_le _, setRow_heap w b cur cur' e (0, 0) e5, by simpa using e6, e7, by rw [r2]; exact e8, by simp⟩⟩,
          fun el hel => ?_, fun u' hu' => ?_, fun j y hj => ?_⟩
        · rcases List.mem_or_eq_of_mem_set hel with h8 | h8
          · exact h5 _ h8
          · subst h8
            have : (elems.getD k []).length = sz := h5 _ (by simp [List.getD, List.getElem?_eq_getElem hk])
            simp only [splice, List.length_append, List.length_take, List.length_drop]
            omega
        · obtain ⟨j, hj, rfl⟩ := List.mem_iff_getElem.1 hu'
          have hj2 := hnews j
          rw [List.getElem?_eq_getElem hj] at hj2
          split at hj2
          · exact q2 _ (List.mem_of_getElem? hj2.symm)
          · exact h6 _ (List.mem_of_getElem? hj2.symm)
        · rw [splice_flat h5 hk (by omega) j, hl] at hj
          have hj2 := hnews j
          split at hj
          · rename_i hc1
            rw [if_pos hc1] at hj2
            have := (q3 _ y hj).mono (fun _ h => h) hImm hxx
            rw [List.getD_eq_getElem?_getD, hj2, ← List.getD_eq_getElem?_getD]
            exact this
          · rename_i hc1
            rw [if_neg hc1] at hj2
            have := (h7 _ y hj).mono (fun _ h => h) hImm hxx
            rw [List.getD_eq_getElem?_getD, hj2, ← List.getD_eq_getElem?_getD]
            exact this
      obtain ⟨m1, m2⟩ := hr.write (w' := w.setRow b cur') (c := c') hB rfl hc rfl rfl rfl (by simp) hown' (Nat.le_refl _) (fun _ => rfl) (fun b' hb' => .inr hb') hBk
      exact ⟨_, _, hrun, m1, m2⟩

theorem op_store {t : Nat} {x y : Operand} (ho : o.op = .store t x y) {i : TI} (hi : TyIs P t i) {id k off st e sz : Nat} {elems : List (List AV)} (hx : aeval G fr x = .ptr id k off st) (hB : H[id]? = some (.row e sz elems))
    (hst : st = elems.length) (hk : k < elems.length) (hy : (aeval G fr y).cells = true) (hl : (cellsOf (aeval G fr y)).length = i.size) (hn : off + i.size ≤ sz) :
    OpOk P G o fr H .any (H.set id (.row e sz (elems.set k (splice (elems.getD k []) off (cellsOf (aeval G fr y)))))) := by
  intro κ I a w hg hr hf
  have hv := aeval_vr hg hf x
  rw [hx] at hv
  obtain ⟨κ', w', h1, h2, h3⟩ := store_row hr hB hv hst hk hi hy hl hn (aeval_vr hg hf y)
  exact ⟨undef, κ', I, w', .inr ⟨by simp [execOp, ho, h1], rfl⟩, .any, h2, h3⟩
end
end Go.Proofs.Ax

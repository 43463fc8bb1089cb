import Derived.Test.YthdnbnombelfpaaGreatDoorAx10
import Derived.Test.YthdnbnombelfpaaGreatDoorAx13
import Derived.Lib.ItoaLen
import Derived.Lib.ItoaMem
import Derived.Lib.LaidTab
/- AX, part It: strconv.Itoa for the evaluator. -/
set_option linter.unusedVariables false
set_option linter.unusedSimpArgs false
namespace Go.Proofs.Ax
open Go.RowKit

def pow10V : AV := .lptr [(List.range 20).map fun i => AV.int .u64 (Int.ofNat (10 ^ i))] 0 0
def digB : Nat → Nat → List UInt8 → List UInt8 :=
  Nat.rec (fun _ acc => acc) fun _ ih u acc => bif Nat.blt u 10 then UInt8.ofNat (48 + u) :: acc else ih (u / 10) (UInt8.ofNat (48 + u % 10) :: acc)
theorem digB_eq : ∀ (k u : Nat) (acc : List UInt8), u < 10 ^ k → 0 < k → digB k u acc = Lib.decDigits u ++ acc := by
  intro k
  induction k with
  | zero => intro u acc _ h; omega
  | succ k ih =>
    intro u acc hu _
    show (bif Nat.blt u 10 then UInt8.ofNat (48 + u) :: acc else digB k (u / 10) (UInt8.ofNat (48 + u % 10) :: acc)) = _
    rw [Lib.decDigits]
    by_cases h : u < 10
    · have hb : Nat.blt u 10 = true := by rw [Nat.blt_eq]; exact h
      rw [hb, dif_pos h]
      rfl
    · have hb : Nat.blt u 10 = false := by
        cases hb : Nat.blt u 10
        · rfl
        · rw [Nat.blt_eq] at hb; exact absurd hb h
      rw [hb, dif_neg h]
      simp only [cond_false]
      have hk : 0 < k := by
        rcases Nat.eq_zero_or_pos k with rfl | hk
        · simp at hu; omega
        · exact hk
      rw [ih _ _ (by rw [Nat.pow_succ] at hu; exact Nat.div_lt_of_lt_mul (by omega)) hk, List.append_assoc]
      rfl
def itoaX (args : List AV) (R : RH) : Option (AEnd × RH) :=
  match args with
  | [.int .i64 (.ofNat n)] => bif Nat.blt n 9223372036854775808 then some (.ret (.str (digB 20 n [])), R) else none
  | _ => none

theorem tabIs_of {P : Program} {I : Nat → Prop} {w : World} {G : Glob} (hg : GRel I w G) {g : Nat} (hname : P.globalNamed "internal/strconv.uint64pow10" = some g) (hG : G g = some pow10V) : Lib.TabIs P w "internal/strconv.uint64pow10" .u64 Lib.pow10Tab := by
  obtain ⟨h1, h2⟩ := hg g _ hG
  obtain ⟨_, us, e, fz, h3, h4⟩ := h2 _ rfl
  have hv : w.var? P "internal/strconv.uint64pow10" = some us := by simp [World.var?, hname, h3]
  unfold Lib.TabIs
  rw [hv]
  congr 1
  have hlen : us.size = 20 := by rw [h4]; simp
  generalize hp : (Value.pointer (some ⟨g, 0, none⟩)) = pv at h1
  unfold pow10V at h1
  cases h1 with
  | lptr b o sz vs hI hsz hc hone hx =>
    simp only [Value.pointer.injEq, Option.some.injEq, Addr.mk.injEq] at hp
    obtain ⟨rfl, ho, _⟩ := hp
    have ho' : o = 0 := by omega
    subst ho'
    have hsz2 : sz = 20 := by have := hsz _ List.mem_cons_self; simpa using this.symm
    subst hsz2
    apply Array.ext
    · simp [hlen, Lib.pow10Tab]
    · intro j hj1 hj2
      have hj : j < 20 := by omega
      have q1 := hc j (by simpa using hj)
      rw [Nat.zero_add, World.var?_cell hname hv j, Array.getElem?_eq_getElem hj1] at q1
      have q2 := hx j (.int .u64 (Int.ofNat (10 ^ j))) (by simp [hj])
      have q3 := vr_int q2
      simp only [Option.some.injEq] at q1
      rw [q1, q3]
      simp [Lib.pow10Tab]

theorem itoa_callOk {P : Program} {G : Glob} {f g : Nat} (hb : Bodied P f) (hname : P.globalNamed "internal/strconv.uint64pow10" = some g) (hG : G g = some pow10V)
    (hI : ∀ (n : Int), -9223372036854775808 ≤ n → n ≤ 9223372036854775807 → ∀ w, Lib.TabIs P w "internal/strconv.uint64pow10" .u64 Lib.pow10Tab → Calls P f #[.int .i64 n] w fun e w' => e = .returned (.string ⟨(Lib.itoa n).toArray⟩) ∧ ∃ k os, w' = Sort.grow (w.drewN k) os) :
    CallOk P G fun g' args R => if g' = f then itoaX args R else none := by
  intro g' args R x R' hR hw h
  dsimp only at h
  split at h
  · rename_i e
    subst e
    unfold itoaX at h
    split at h <;> (try (cases h; done))
    rename_i n
    obtain ⟨h1, h2⟩ := bif_some h
    cases h2
    have hn : n < 9223372036854775808 := by rw [blt_eq] at h1; simpa using h1
    refine ⟨hb, ?_, hR, .refl R⟩
    intro κ I us w hg hr ha
    obtain ⟨v, rfl⟩ : ∃ v, us = [v] := by
      match us, ha.1 with
      | [v], _ => exact ⟨v, rfl⟩
    have hv : VR I w κ (.int .i64 (Int.ofNat n)) v := ha.2 0 _ rfl
    rw [vr_int hv]
    have hd : digB 20 n [] = Lib.itoa (Int.ofNat n) := by
      rw [digB_eq 20 n [] (by omega) (by omega), List.append_nil]
      exact (Lib.itoa_nonneg n).symm
    have i0 : (-9223372036854775808 : Int) ≤ Int.ofNat n := by show _ ≤ (n : Int); omega
    have i1 : Int.ofNat n ≤ 9223372036854775807 := by show (n : Int) ≤ _; omega
    have hlen := Lib.itoa_length_le (Int.ofNat n) i0 i1
    refine (hI (Int.ofNat n) i0 i1 w (tabIs_of hg hname hG)).mono ?_
    rintro e w' ⟨rfl, k, os, rfl⟩
    have hgr := hr.grow (w' := Sort.grow (w.drewN k) os) rfl rfl rfl (by show w.heap.size ≤ (w.heap ++ os).size; simp) (fun b hb => by show (w.heap ++ os)[b]? = _; exact Array.getElem?_append_left hb)
    refine ⟨.ret (.str (digB 20 n [])), R.H, κ, I, ?_, hgr.1, hgr.2, rfl, rfl⟩
    rw [hd]
    exact .str (by have : 21 ≤ maxLen := by decide
                   omega)
  · cases h
end Go.Proofs.Ax
/- AX, part Jo: joined(client(n)) for the evaluator. -/
set_option linter.unusedVariables false
set_option linter.unusedSimpArgs false
namespace Go.Proofs.Ax
open Go.RowKit

theorem ACalls.nl {P : Program} {G : Glob} {f : FuncId} {args args' : List AV} {H H1 : AH} {Q : AEnd → AH → Prop} (ha : args.map AV.nl = args') (hH : H.map AB.nl = H1) (h : ACalls P G f args' H1 Q) : ACalls P G f args H Q := by
  subst ha hH
  intro κ I us w hg hr hv
  refine (h κ I us w hg hr.nl ⟨by simpa using hv.1, fun i x hx => ?_⟩).mono ?_
  · rw [List.getElem?_map] at hx
    obtain ⟨y, hy, rfl⟩ := Option.map_eq_some_iff.1 hx
    exact (hv.2 i y hy).nl
  · rintro e w' ⟨x, H', κ', I', h1, h2, h3, h4⟩
    refine ⟨x, H', κ', I', h1, h2, ⟨h3.os, h3.tape, h3.output, h3.size, h3.imm, fun b hb hn => h3.kept b hb fun ho => hn (own_nl.1 ho), fun b hb => ?_, fun b hb => ?_, h3.ext⟩, h4⟩
    · rcases h3.fresh b hb with h | h | h
      · exact .inl h
      · exact .inr (.inl h)
      · exact .inr (.inr (own_nl.1 h))
    · rcases h3.owned b hb with h | h
      · exact .inl (own_nl.1 h)
      · exact .inr h

/-! ### The tree out of cells -/
def decA : List (List AV) → Option (List At)
  | [] => some []
  | [.str a, .str b, .str c] :: l => match decA l with
    | some r => some (⟨a, b, c⟩ :: r)
    | none => none
  | _ => none
def decAs : AV → Option (List At)
  | .nils => some []
  | .lit l => decA l
  | _ => none
def decL (f : List AV → Option Nd) : List (List AV) → Option (List Nd)
  | [] => some []
  | x :: l => match f x, decL f l with
    | some y, some r => some (y :: r)
    | _, _ => none
def decN : Nat → List AV → Option Nd :=
  Nat.rec (fun _ => none) fun _ ih cs => match cs with
    | [.int _ k, .str s, .str n, at', ks, .str d] => match decAs at', (match ks with | .nils => some [] | .lit l => decL ih l | _ => none) with
      | some a, some l => some (.mk k s n a l d)
      | _, _ => none
    | _ => none
def joinX (args : List AV) (R : RH) : Option (AEnd × RH) :=
  match args with
  | [.func (.func 57) [] [.ptr id 0 0 1]] => match R.get id with
    | some (.row 27 6 [cells]) => match decN 100 cells with
      | some x => bif AV.eqvs (AV.nls (AV.rens (keepS 0 [id]) cells)) (nodeC x) && Nat.ble x.sz 1099511627776 then some (.ret (.slice R.n (joinF (keptF x)).length), R.app (.setPush id (.row 27 6 [nodeC x]) (.row 27 6 ((joinF (keptF x)).map nodeC)))) else none
      | none => none
    | _ => none
  | _ => none

theorem join_callOk {G : Glob} : CallOk Tryz.prog G fun g' args R => if g' = 23 then joinX args R else none := by
  intro g' args R x R' hR hw h
  dsimp only at h
  split at h
  · rename_i e
    subst e
    unfold joinX at h
    split at h <;> (try (cases h; done))
    rename_i id
    rw [RH.get_eq hR] at h
    split at h <;> (try (cases h; done))
    rename_i cells hB
    split at h <;> (try (cases h; done))
    rename_i y hy
    obtain ⟨h1, h2⟩ := bif_some h
    cases h2
    simp only [Bool.and_eq_true] at h1
    have e1 := eqvs_eq _ _ h1.1
    have hsz : y.sz ≤ 1099511627776 := by simpa [ble_eq] using h1.2
    have hidl : id < R.H.length := (List.getElem?_eq_some_iff.1 hB).1
    have hidn : id < R.n := by rw [← RH.H_len hR]; exact hidl
    have hwi : HC.within (.setPush id (.row 27 6 [nodeC y]) (.row 27 6 ((joinF (keptF y)).map nodeC))) R.n := by
      intro i b hh
      rcases hh with hh | ⟨b', hh⟩ <;> cases hh
      exact hidn
    obtain ⟨u1, u2⟩ := RH.app_H hR hwi
    refine ⟨⟨Tryz.f23, Tryz.func23, rfl, rfl⟩, ?_, u2, Keeps.app hR hwi⟩
    have hkk : Nd.szs y.kids ≤ 1099511627776 := by have := Nd.sz_eq y; omega
    have hc := joined23_ok G y (ok_of_sz y hsz) (hd_of_sz (Nat.le_trans (szs_filter _ _) hkk))
    have hgd : R.H.getD id .dead = .row 27 6 [cells] := by simp [List.getD, hB]
    have hkeep : (R.H.keep 0 [id]).map AB.nl = [.row 27 6 [nodeC y]] := by
      simp only [AH.keep, List.take_zero, List.map_nil, List.nil_append, List.map_cons, hgd, AB.ren, AB.nl, AV.nlss, e1]
    refine (ACalls.frame (P := Tryz.prog) (G := G) (f := 23) (args := [.func (.func 57) [] [.ptr id 0 0 1]]) (H := R.H) [id] (by simp) (fun z hz => (List.mem_singleton.1 hz) ▸ hidl)
      (ACalls.nl (args' := [.func (.func 57) [] [.ptr 0 0 0 1]]) (by simp [AV.rens, AV.ren, posIn, AV.nl]) hkeep hc)).mono ?_
    rintro e H4 ⟨e0, H5, ⟨rfl, rfl⟩, rfl, rfl⟩
    refine ⟨?_, ?_⟩
    · simp [AEnd.ren, AV.ren, upS, RH.H_len hR]
    · rw [u1]
      simp only [HC.app, AH.merge, List.length_cons, List.length_nil, List.take_succ_cons, List.take_zero, List.map_cons, List.map_nil, setAll, List.drop_succ_cons, List.drop_zero, AB.ren, rens_nodeC, rens_nodes]
  · cases h
end Go.Proofs.Ax

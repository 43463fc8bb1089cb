import Derived.Test.YthdnbnombelfpaaGreatDoorAx13
import Derived.Test.YthdnbnombelfpaaGreatDoorRows
import Derived.ChangeArms
import Derived.KernelRfl
/- AX, part Op: a tree of nodes, out of the reading of an argument. -/
set_option linter.unusedVariables false
set_option linter.unusedSimpArgs false
namespace Go.Proofs.Ax
open Go.RowKit Go.Proofs.YthdnbnombelfpaaGreatDoor

section
variable {H : Type} {enc : TypeId × Value → H} {W : World}

/-- All that was there when the call began: nobody writes to it. -/
def oldI (W : World) (b : Nat) : Prop := b < W.heap.size
theorem old_hrel (W : World) : HRel kap0 (oldI W) [] W :=
  ⟨fun id => by simp [kap0], fun id B h => by simp at h, fun id id' B B' c c' b h => by simp at h, fun b hb => ⟨hb, fun ⟨id, B, c, h, _⟩ => by simp at h⟩⟩
theorem cell_old {a : Addr} {v : Value} (h : W.cell? a = some v) : a.spot = none ∧ oldI W a.block := by
  unfold World.cell? at h
  split at h
  · rename_i c e fz hb
    split at h
    · cases h
    · rename_i hs
      exact ⟨by simpa using hs, (Array.getElem?_eq_some_iff.1 hb).1⟩
  · cases h
theorem cells_get {a : Addr} {n : Nat} {l : List Value} (h : W.cells? 0 a n = some l) : l.length = n ∧ ∀ j, j < n → W.cell? (a.add j) = some (l.getD j undef) := by
  unfold World.cells? at h
  simp only [Nat.zero_le, if_true] at h
  have hl := mapM_some_length h
  refine ⟨by simpa using hl, fun j hj => ?_⟩
  have := mapM_some_get h j j (by simp [hj])
  rw [List.getElem?_eq_getElem (by simpa [hl] using hj)] at this
  simp only [List.getD, List.getElem?_eq_getElem (show j < l.length by simpa [hl] using hj), Option.getD_some]
  exact this
/-- Cells that stand for a value's. -/
def Cs (W : World) (ys : List AV) (cs : List Value) : Prop := cs.length = ys.length ∧ (∀ u ∈ cs, u.oneCell' = true) ∧ ∀ i y, ys[i]? = some y → VR (oldI W) W kap0 y (cs.getD i undef)

/-- A slice of elements. -/
theorem slice_open {α : Type} {t e k : Nat} (ht : Tryz.prog.underlying t = some (.slice e)) (hk : Tryz.prog.cellsOf e = k) (hk0 : 0 < k) (f : α → List AV) (hf : ∀ y, (f y).length = k) (sz : α → Nat) {n : Nat}
    (ih : ∀ m, m < n → ∀ cs x, DataW.trod enc Tryz.prog W 0 (fun _ => true) true m e cs = some x → ∃ y, Cs W (f y) cs ∧ sz y ≤ Rows.uptoBulk x.1)
    {cs : List Value} {x : DataW H × List MemPlace} (h : DataW.trod enc Tryz.prog W 0 (fun _ => true) true n t cs = some x) :
    ∃ l : List α, Cs W [.lit (l.map f)] cs ∧ (l.map sz).sum + 1 ≤ Rows.uptoBulk x.1 := by
  rcases DataW.trod_slice ht h with ⟨rfl, rfl⟩ | ⟨a, len, cap, elems, rest, m, rfl, rfl, rfl, _, hlc, hcm, hlen, hel, _, _⟩
  · refine ⟨[], ⟨rfl, fun u hu => ?_, fun i y hy => ?_⟩, by simp [Rows.uptoBulk]⟩
    · have : u = .slice none 0 0 := by simpa using hu
      subst this; rfl
    · cases i with
      | zero =>
        simp at hy
        subst hy
        exact .lit (elems := []) (a := none) (cp := 0) 0 (fun _ => undef) (Nat.le_refl _) (Nat.zero_le _) (fun e he => by cases he) (fun he => absurd rfl he) (fun j hj => by simp at hj) (fun j x hx => by simp at hx)
      | succ i => simp at hy
  · rw [hk] at hel
    have each : ∀ i, i < len → ∃ y c z, elems[i]? = some z ∧ W.cells? 0 (a.add (i * k)) k = some c ∧ Cs W (f y) c ∧ sz y ≤ Rows.uptoBulk z.1 := by
      intro i hi
      have := hel i hi
      rw [List.getElem?_eq_getElem (by omega)] at this
      obtain ⟨c, h1, h2⟩ := Option.bind_eq_some_iff.1 this
      obtain ⟨y, h3, h4⟩ := ih m (Nat.lt_succ_self _) c _ h2
      exact ⟨y, c, elems[i], List.getElem?_eq_getElem (by omega), h1, h3, h4⟩
    have build : ∀ j, j ≤ len → ∃ l : List α, l.length = j ∧ (∀ i y, l[i]? = some y → ∃ c z, elems[i]? = some z ∧ W.cells? 0 (a.add (i * k)) k = some c ∧ Cs W (f y) c ∧ sz y ≤ Rows.uptoBulk z.1) ∧ (l.map sz).sum ≤ Rows.uptoBulkAll ((elems.take j).map (·.1)) := by
      intro j
      induction j with
      | zero => intro _; exact ⟨[], rfl, fun i y hy => by simp at hy, by simp⟩
      | succ j ihj =>
        intro hj
        obtain ⟨l, l1, l2, l3⟩ := ihj (by omega)
        obtain ⟨y, c, z, y1, y2, y3, y4⟩ := each j (by omega)
        refine ⟨l ++ [y], by simp [l1], fun i y' hy' => ?_, ?_⟩
        · by_cases hi : i < l.length
          · rw [List.getElem?_append_left hi] at hy'
            exact l2 i y' hy'
          · rw [List.getElem?_append_right (by omega)] at hy'
            have e0 : i = j := by
              have := (List.getElem?_eq_some_iff.1 hy').1
              simp at this
              omega
            subst e0
            rw [l1, Nat.sub_self] at hy'
            simp at hy'
            subst hy'
            exact ⟨c, z, y1, y2, y3, y4⟩
        · have e1 : elems.take (j + 1) = elems.take j ++ [z] := by
            rw [List.take_add_one, y1]; rfl
          have app : ∀ (p q : List (DataW H)), Rows.uptoBulkAll (p ++ q) = Rows.uptoBulkAll p + Rows.uptoBulkAll q := by
            intro p q
            induction p with
            | nil => simp [Rows.uptoBulkAll]
            | cons d p ihp => simp only [List.cons_append, Rows.uptoBulkAll, ihp]; omega
          rw [e1, List.map_append, List.map_append, app, List.sum_append]
          simp only [List.map_cons, List.map_nil, List.sum_cons, List.sum_nil, Rows.uptoBulkAll]
          omega
    obtain ⟨l, l1, l2, l3⟩ := build len (Nat.le_refl _)
    rw [← hlen, List.take_length] at l3
    have hcell : ∀ i y, l[i]? = some y → ∀ q, q < k → ∃ b o, a = ⟨b, o, none⟩ ∧ oldI W b ∧ ∃ c, W.cell? ⟨b, o + (i * k + q), none⟩ = some (c : Value) ∧ c.oneCell' = true ∧ ∀ x, (f y)[q]? = some x → VR (oldI W) W kap0 x c := by
      intro i y hy q hq
      obtain ⟨c, z, h1, h2, h3, h4⟩ := l2 i y hy
      obtain ⟨c1, c2⟩ := cells_get h2
      have hc0 := c2 q hq
      -- the address has no spot
      have hspot : a.spot = none ∧ oldI W a.block := by
        obtain ⟨c', z', g1, g2, g3, g4⟩ := l2 0 (l[0]'(by have := (List.getElem?_eq_some_iff.1 hy).1; omega)) (List.getElem?_eq_getElem _)
        have := (cells_get g2).2 0 hk0
        have := cell_old this
        simpa [Addr.add] using this
      obtain ⟨b, o, sp⟩ := a
      simp only at hspot
      obtain ⟨rfl, hb⟩ := hspot
      have hadd : (Addr.add (Addr.add ⟨b, o, none⟩ (i * k)) q) = ⟨b, o + (i * k + q), none⟩ := by
        unfold Addr.add
        by_cases e1 : i * k = 0 <;> by_cases e2 : q = 0
        · simp [e1, e2]
        · simp [e1, e2]
        · rw [if_pos e2, if_neg e1]; simp [e2]
        · rw [if_neg e2, if_neg e1]; simp; omega
      rw [hadd] at hc0
      refine ⟨b, o, rfl, hb, _, hc0, h3.2.1 _ ?_, fun x hx => h3.2.2 q x hx⟩
      simp only [List.getD, List.getElem?_eq_getElem (show q < c.length by omega), Option.getD_some]
      exact List.getElem_mem _
    have hflen : (l.map f).flatten.length = len * k := by
      have : ∀ (l : List α), (l.map f).flatten.length = l.length * k := by
        intro l
        induction l with
        | nil => simp
        | cons y l ihl => simp only [List.map_cons, List.flatten_cons, List.length_append, hf, ihl, List.length_cons, Nat.succ_mul]; omega
      rw [this, l1]
    have hflat : ∀ j x, (l.map f).flatten[j]? = some x → ∃ y, l[j / k]? = some y ∧ (f y)[j % k]? = some x := by
      have : ∀ (l : List α) j x, (l.map f).flatten[j]? = some x → ∃ y, l[j / k]? = some y ∧ (f y)[j % k]? = some x := by
        intro l
        induction l with
        | nil => intro j x hx; simp at hx
        | cons y l ihl =>
          intro j x hx
          rw [List.map_cons, List.flatten_cons] at hx
          by_cases hj : j < k
          · rw [List.getElem?_append_left (by rw [hf]; exact hj)] at hx
            exact ⟨y, by rw [Nat.div_eq_of_lt hj]; rfl, by rw [Nat.mod_eq_of_lt hj]; exact hx⟩
          · rw [List.getElem?_append_right (by rw [hf]; omega), hf] at hx
            obtain ⟨y', g1, g2⟩ := ihl _ _ hx
            refine ⟨y', ?_, ?_⟩
            · rw [Nat.div_eq_sub_div hk0 (by omega)]; simpa using g1
            · rw [Nat.mod_eq_sub_mod (by omega)]; exact g2
      exact this l
    refine ⟨l, ⟨rfl, fun u hu => ?_, fun i y hy => ?_⟩, ?_⟩
    · have : u = .slice (some a) len cap := by simpa using hu
      subst this; rfl
    · cases i with
      | succ i => simp at hy
      | zero =>
        simp at hy
        subst hy
        show VR (oldI W) W kap0 (.lit (l.map f)) (.slice (some a) len cap)
        have hll : (l.map f).length = len := by simp [l1]
        have hsome : ∀ j, j < len * k → ∃ y, l[j / k]? = some y ∧ j % k < k := fun j hj => by
          have : j / k < l.length := by rw [l1]; exact Nat.div_lt_of_lt_mul (by rw [Nat.mul_comm]; exact hj)
          exact ⟨_, List.getElem?_eq_getElem this, Nat.mod_lt _ hk0⟩
        have hjk : ∀ j, j / k * k + j % k = j := fun j => by rw [Nat.mul_comm]; exact Nat.div_add_mod j k
        have := VR.lit (I := oldI W) (w := W) (κ := kap0) (elems := l.map f) (a := some a) (cp := cap) k (fun j => (W.cell? ⟨a.block, a.off + j, none⟩).getD undef) (by rw [hll]; exact hlc) (by rw [hll]; omega) (fun e he => by
            obtain ⟨y, _, rfl⟩ := List.mem_map.1 he
            exact hf y) (fun hne => by
            obtain ⟨y, hy⟩ : ∃ y, l[0]? = some y := by
              cases l with
              | nil => exact absurd rfl hne
              | cons y l => exact ⟨y, rfl⟩
            obtain ⟨b, o, rfl, hb, _⟩ := hcell 0 y hy 0 hk0
            refine ⟨b, o, rfl, hb, fun j hj => ?_⟩
            rw [hll] at hj
            obtain ⟨y', g1, g2⟩ := hsome j hj
            obtain ⟨b', o', e1, _, c, g3, _⟩ := hcell _ y' g1 _ g2
            cases e1
            rw [hjk] at g3
            rw [g3]; rfl) (fun j hj => by
            rw [hll] at hj
            obtain ⟨y', g1, g2⟩ := hsome j hj
            obtain ⟨b', o', rfl, _, c, g3, g4, _⟩ := hcell _ y' g1 _ g2
            rw [hjk] at g3
            rw [g3]; exact g4) (fun j x hx => by
            obtain ⟨y', g1, g2⟩ := hflat j x hx
            have hq : j % k < k := Nat.mod_lt _ hk0
            obtain ⟨b', o', rfl, _, c, g3, _, g5⟩ := hcell _ y' g1 _ hq
            rw [hjk] at g3
            rw [g3]; exact g5 x g2)
        rw [hll] at this
        exact this
    · simp only [Rows.uptoBulk]
      omega
theorem len3 {α : Type} {l : List α} (h : l.length = 3) : ∃ a b c, l = [a, b, c] := by
  match l, h with
  | [a, b, c], _ => exact ⟨a, b, c, rfl⟩
theorem len6 {α : Type} {l : List α} (h : l.length = 6) : ∃ a b c d e f, l = [a, b, c, d, e, f] := by
  match l, h with
  | [a, b, c, d, e, f], _ => exact ⟨a, b, c, d, e, f, rfl⟩
theorem c1 : Tryz.prog.cellsOf 9 = 1 := by kernel_rfl
theorem c1i : Tryz.prog.cellsOf 3 = 1 := by kernel_rfl
theorem c1s : Tryz.prog.cellsOf 24 = 1 := by kernel_rfl
theorem c1k : Tryz.prog.cellsOf 25 = 1 := by kernel_rfl
theorem c3 : Tryz.prog.cellsOf 49 = 3 := by kernel_rfl
theorem c6 : Tryz.prog.cellsOf 27 = 6 := by kernel_rfl
theorem under49 : ∃ f0 f1 f2 : Field, Tryz.prog.underlying 49 = some (.struct #[f0, f1, f2]) ∧ (f0.type = 9 ∧ f0.offset = 0) ∧ (f1.type = 9 ∧ f1.offset = 1) ∧ (f2.type = 9 ∧ f2.offset = 2) :=
  ⟨_, _, _, Tryz.underlying49, ⟨rfl, rfl⟩, ⟨rfl, rfl⟩, ⟨rfl, rfl⟩⟩

theorem under27 : ∃ f0 f1 f2 f3 f4 f5 : Field, Tryz.prog.underlying 27 = some (.struct #[f0, f1, f2, f3, f4, f5]) ∧ (f0.type = 3 ∧ f0.offset = 0) ∧ (f1.type = 9 ∧ f1.offset = 1) ∧ (f2.type = 9 ∧ f2.offset = 2) ∧ (f3.type = 24 ∧ f3.offset = 3) ∧ (f4.type = 25 ∧ f4.offset = 4) ∧ (f5.type = 9 ∧ f5.offset = 5) :=
  ⟨_, _, _, _, _, _, Tryz.underlying27, ⟨rfl, rfl⟩, ⟨rfl, rfl⟩, ⟨rfl, rfl⟩, ⟨rfl, rfl⟩, ⟨rfl, rfl⟩, ⟨rfl, rfl⟩⟩
theorem str_open {n : Nat} {c : Value} {x : DataW H × List MemPlace} (h : DataW.trod enc Tryz.prog W 0 (fun _ => true) true n 9 [c] = some x) : ∃ l : List UInt8, c.oneCell' = true ∧ VR (oldI W) W kap0 (.str l) c ∧ l.length + 1 = Rows.uptoBulk x.1 := by
  obtain ⟨s, h1, rfl, h3⟩ := DataW.trod_string Tryz.underlying9 h
  cases h1
  refine ⟨s.data.toList, rfl, ?_, by simp [Rows.uptoBulk]⟩
  have := VR.str (I := oldI W) (w := W) (κ := kap0) (s := s.data.toList) (by simpa using h3)
  rwa [ofL_self] at this
theorem attr_open {n : Nat} {cs : List Value} {x : DataW H × List MemPlace} (h : DataW.trod enc Tryz.prog W 0 (fun _ => true) true n 49 cs = some x) : ∃ a : At, Cs W (attrC a) cs ∧ a.sz ≤ Rows.uptoBulk x.1 := by
  obtain ⟨f0, f1, f2, hu, ⟨t0, o0⟩, ⟨t1, o1⟩, ⟨t2, o2⟩⟩ := under49
  obtain ⟨xs, m, rfl, rfl, hl, hxl, hf⟩ := DataW.trod_struct hu h
  rw [c3] at hl
  obtain ⟨c0, c1', c2, rfl⟩ := len3 hl
  · skip
    have h0 := hf 0 f0 rfl
    have h1 := hf 1 f1 rfl
    have h2 := hf 2 f2 rfl
    rw [t0, o0, c1] at h0
    rw [t1, o1, c1] at h1
    rw [t2, o2, c1] at h2
    obtain ⟨x0, x1, x2, rfl⟩ := len3 hxl
    · skip
      obtain ⟨l0, p0, q0, r0⟩ := str_open h0
      obtain ⟨l1, p1, q1, r1⟩ := str_open h1
      obtain ⟨l2, p2, q2, r2⟩ := str_open h2
      refine ⟨⟨l0, l1, l2⟩, ⟨rfl, fun u hu => ?_, fun i y hy => ?_⟩, ?_⟩
      · simp at hu
        rcases hu with rfl | rfl | rfl <;> assumption
      · match i, hy with
        | 0, hy => cases hy; exact q0
        | 1, hy => cases hy; exact q1
        | 2, hy => cases hy; exact q2
      · simp only [At.sz, List.map_cons, List.map_nil, Rows.uptoBulk, Rows.uptoBulkAll]
        omega
theorem atsz_sum (l : List At) : (l.map At.sz).sum = atsz l := by
  induction l with
  | nil => rfl
  | cons a l ih => simp only [List.map_cons, List.sum_cons, ih, atsz]
theorem szs_sum (l : List Nd) : (l.map Nd.sz).sum = Nd.szs l := by
  induction l with
  | nil => simp [Nd.szs]
  | cons a l ih => simp only [List.map_cons, List.sum_cons, ih, Nd.szs]
theorem node_open : ∀ (n : Nat) (cs : List Value) (x : DataW H × List MemPlace), DataW.trod enc Tryz.prog W 0 (fun _ => true) true n 27 cs = some x → ∃ y : Nd, Cs W (nodeC y) cs ∧ y.sz ≤ Rows.uptoBulk x.1 := by
  intro n
  induction n using Nat.strongRecOn with
  | _ n ih =>
    intro cs x h
    obtain ⟨f0, f1, f2, f3, f4, f5, hu, ⟨t0, o0⟩, ⟨t1, o1⟩, ⟨t2, o2⟩, ⟨t3, o3⟩, ⟨t4, o4⟩, ⟨t5, o5⟩⟩ := under27
    obtain ⟨xs, m, rfl, rfl, hl, hxl, hf⟩ := DataW.trod_struct hu h
    rw [c6] at hl
    obtain ⟨c0, c1', c2, c3', c4, c5, rfl⟩ := len6 hl
    · skip
      have h0 := hf 0 f0 rfl
      have h1 := hf 1 f1 rfl
      have h2 := hf 2 f2 rfl
      have h3 := hf 3 f3 rfl
      have h4 := hf 4 f4 rfl
      have h5 := hf 5 f5 rfl
      rw [t0, o0, c1i] at h0
      rw [t1, o1, c1] at h1
      rw [t2, o2, c1] at h2
      rw [t3, o3, c1s] at h3
      rw [t4, o4, c1k] at h4
      rw [t5, o5, c1] at h5
      obtain ⟨x0, x1, x2, x3, x4, x5, rfl⟩ := len6 hxl
      · skip
        obtain ⟨k, e0, rfl, _⟩ := DataW.trod_int Tryz.underlying3 h0
        have e0' : c0 = .int .i64 k := by simpa using e0
        subst e0'
        obtain ⟨l1, p1, q1, r1⟩ := str_open h1
        obtain ⟨l2, p2, q2, r2⟩ := str_open h2
        obtain ⟨la, sa, ra⟩ := slice_open Tryz.underlying24 c3 (by omega) attrC attrC_len At.sz (fun j hj cs x hx => attr_open hx) h3
        obtain ⟨lk, sk, rk⟩ := slice_open Tryz.underlying25 c6 (by omega) nodeC nodeC_len Nd.sz (fun j hj cs x hx => ih j (by omega) cs x hx) h4
        obtain ⟨l5, p5, q5, r5⟩ := str_open h5
        refine ⟨.mk k l1 l2 la lk l5, ⟨by rw [nodeC_len]; rfl, fun u hu => ?_, fun i y hy => ?_⟩, ?_⟩
        · simp only [List.mem_cons, List.not_mem_nil, or_false] at hu
          rcases hu with rfl | rfl | rfl | rfl | rfl | rfl
          · rfl
          · exact p1
          · exact p2
          · exact sa.2.1 _ (by simp)
          · exact sk.2.1 _ (by simp)
          · exact p5
        · rw [nodeC_mk] at hy
          rcases i with _ | _ | _ | _ | _ | _ | i
          · cases hy; exact .int
          · cases hy; exact q1
          · cases hy; exact q2
          · cases hy; exact sa.2.2 0 _ rfl
          · cases hy; exact sk.2.2 0 _ rfl
          · cases hy; exact q5
          · simp at hy
        · rw [atsz_sum] at ra
          rw [szs_sum] at rk
          simp only [Nd.sz, List.map_cons, List.map_nil, Rows.uptoBulk, Rows.uptoBulkAll]
          omega
end
end Go.Proofs.Ax

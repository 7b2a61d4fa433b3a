/- AskBack, isthmus law 18: what is asked is read back, and no front of it, proved for every input whose bulk is at most 1048576 (the second form): the tied card. -/
import Derived.Test.YtamplhegepgaeaaDoorEx
import Derived.Test.YtamplhegepgaeaaDoorPl
import Derived.Test.YtamplhegepgaeaaDoorRows
import Derived.Deep.Slices
import Derived.ChangeArms
import Derived.Test.YtamplhegepgaeaaDoorCards
import Derived.Test.YtamplhegepgaeaaDoorTie
import Derived.WalkKit
import Derived.ProofKit
import Derived.OpenShut
import Derived.Deep.DeepHandedRow
import Derived.Lib.LaidTab
import Derived.Shelf.Vars
section
/- The inputs: what is read off a world is laid out as the evaluator's memory. -/
namespace Go.Proofs.YtamplhegepgaeaaDoor
open Go Go.LZ
set_option linter.unusedSimpArgs false
set_option linter.unusedVariables false
set_option maxRecDepth 20000
/-- A slice of a world, and the cells that it shows. -/
def InSl (W : World) (v : Value) (z n : Nat) (cells : List LV) : Prop :=
  (v = .slice none 0 0 ∧ n = 0 ∧ cells = []) ∨ (∃ a, v = .slice (some a) 0 0 ∧ n = 0 ∧ cells = []) ∨
  ∃ b off cap C e fr, v = .slice (some ⟨b, off, none⟩) n cap ∧ n ≤ cap ∧ W.heap[b]? = some (.cells C e fr) ∧ off + cap * z ≤ C.size ∧ cells.length = n * z ∧
    ∀ (i : Nat) (l : LV) (u : Value), cells[i]? = some l → C[off + i]? = some u → l.one = true ∧ ∀ μ, VR μ l u
theorem list_choose {α : Type} {p : Nat → α → Prop} : ∀ {n : Nat}, (∀ i, i < n → ∃ x, p i x) → ∃ xs : List α, xs.length = n ∧ ∀ i x, xs[i]? = some x → p i x
  | 0, _ => ⟨[], rfl, fun i x h => by simp at h⟩
  | n + 1, h => by
    obtain ⟨xs, h1, h2⟩ := list_choose (n := n) fun i hi => h i (by omega)
    obtain ⟨x, hx⟩ := h n (by omega)
    refine ⟨xs ++ [x], by simp [h1], fun i y hy => ?_⟩
    rcases Nat.lt_or_ge i xs.length with hi | hi
    · rw [List.getElem?_append_left hi] at hy
      exact h2 i y hy
    · rw [List.getElem?_append_right hi] at hy
      have hlt := (List.getElem?_eq_some_iff.1 hy).1
      simp at hlt
      have : i = n := by omega
      subst this
      rw [h1] at hy
      simp at hy
      exact hy ▸ hx
theorem bulk_sum {H α : Type} {sz : α → Nat} : ∀ {xs : List α} {ds : List (DataW H)}, xs.length = ds.length → (∀ (i : Nat) (x : α) (d : DataW H), xs[i]? = some x → ds[i]? = some d → sz x ≤ Rows.uptoBulk d) → (xs.map sz).sum ≤ Rows.uptoBulkAll ds
  | [], [], _, _ => by simp [Rows.uptoBulkAll]
  | x :: xs, d :: ds, hl, h => by
    have h0 := h 0 x d rfl rfl
    have ih := bulk_sum (xs := xs) (ds := ds) (by simpa using hl) fun i y e hy he => h (i + 1) y e hy he
    simp only [List.map_cons, List.sum_cons, Rows.uptoBulkAll]
    omega
theorem flat_len {α : Type} {enc : α → List LV} {z : Nat} (hc : ∀ x, (enc x).length = z) : ∀ xs : List α, (xs.flatMap enc).length = xs.length * z
  | [] => by simp
  | x :: xs => by
    rw [List.flatMap_cons, List.length_append, hc, flat_len hc xs, List.length_cons, Nat.succ_mul]
    omega
theorem flat_get {α : Type} {enc : α → List LV} {z : Nat} (hz : 0 < z) (hc : ∀ x, (enc x).length = z) {xs : List α} {q : Nat} {l : LV} (h : (xs.flatMap enc)[q]? = some l) : ∃ x, xs[q / z]? = some x ∧ (enc x)[q % z]? = some l := by
  have hlen := flat_len hc xs
  have hq := (List.getElem?_eq_some_iff.1 h).1
  rw [hlen] at hq
  have hi : q / z < xs.length := Nat.div_lt_of_lt_mul (by rw [Nat.mul_comm]; exact hq)
  have hx : xs[q / z]? = some xs[q / z] := List.getElem?_eq_getElem hi
  refine ⟨xs[q / z], hx, ?_⟩
  have hf := flat_at hc hx
  have hj : q % z < z := Nat.mod_lt _ hz
  rw [← hf, List.getElem?_take, if_pos hj, List.getElem?_drop, Nat.div_add_mod' q z]
  exact h
theorem open_in {H α : Type} {enc : TypeId × Value → H} {W : World} {enc' : α → List LV} {sz : α → Nat} {z : Nat} {t e : TypeId} (ht : Tryd.prog.underlying t = some (.slice e)) (ce : Tryd.prog.cellsOf e = z) (hz : 0 < z)
    (hc : ∀ x, (enc' x).length = z) (h1 : ∀ x, ∀ y ∈ enc' x, y.one = true)
    (hel : ∀ (n : Nat) (cs' : List Value) (y : DataW H × List MemPlace), DataW.trod enc Tryd.prog W 0 (fun _ => true) true n e cs' = some y → ∃ x : α, (∀ (j : Nat) (l : LV) (c : Value), (enc' x)[j]? = some l → cs'[j]? = some c → ∀ μ, VR μ l c) ∧ sz x ≤ Rows.uptoBulk y.1)
    {fuel : Nat} {cs : List Value} {x : DataW H × List MemPlace} (h : DataW.trod enc Tryd.prog W 0 (fun _ => true) true fuel t cs = some x) :
    ∃ v, ∃ xs : List α, cs = [v] ∧ InSl W v z xs.length (xs.flatMap enc') ∧ (xs.map sz).sum ≤ Rows.uptoBulk x.1 := by
  rcases Deep.open_slice ht h with ⟨rfl, rfl⟩ | ⟨a, len, cap, m, n, D, Pl, rfl, _, hl, _, hm, rfl, hx⟩
  · exact ⟨_, [], rfl, .inl ⟨rfl, rfl, rfl⟩, by simp⟩
  · simp only [if_true] at hm
    subst hm
    rw [ce] at hx
    by_cases h0 : m = 0
    · subst h0
      obtain rfl : len = 0 := by omega
      exact ⟨_, [], rfl, .inr (.inl ⟨a, rfl, rfl, rfl⟩), by simp⟩
    · -- the block
      have cellOf : ∀ i, i < m → ∀ j, j < z → ∃ cs', (∃ y, DataW.trod enc Tryd.prog W 0 (fun _ => true) true n e cs' = some y ∧ y.1 = D i) ∧ W.cell? (a.add (i * z + j)) = cs'[j]? ∧ j < cs'.length := by
        intro i hi j hj
        obtain ⟨cs', q1, q2⟩ := hx i hi
        obtain ⟨_, q3, q4⟩ := World.cells?_some q1
        refine ⟨cs', ⟨_, q2, rfl⟩, ?_, by omega⟩
        rw [← q4 j hj, Deep.add_add]
      have hsome : ∀ i, i < m → ∀ j, j < z → ∃ u, W.cell? (a.add (i * z + j)) = some u := by
        intro i hi j hj
        obtain ⟨cs', _, q, hlt⟩ := cellOf i hi j hj
        exact ⟨cs'[j], by rw [q, List.getElem?_eq_getElem hlt]⟩
      obtain ⟨u0, hu0⟩ := hsome 0 (by omega) 0 hz
      have ha0 : a.add (0 * z + 0) = a := by simp [Addr.add]
      rw [ha0] at hu0
      obtain ⟨b, off, spot⟩ := a
      have hblk : ∃ C e' fr, W.heap[b]? = some (.cells C e' fr) ∧ spot = none := by
        unfold World.cell? at hu0
        split at hu0
        · rename_i C e' fr hb
          refine ⟨C, e', fr, hb, ?_⟩
          cases spot with
          | none => rfl
          | some s => simp at hu0
        · cases hu0
      obtain ⟨C, e', fr, hb, rfl⟩ := hblk
      have hcell : ∀ i, W.cell? ((⟨b, off, none⟩ : Addr).add i) = C[off + i]? := by
        intro i
        unfold World.cell? Addr.add
        by_cases hi : i = 0
        · subst hi; simp [hb]
        · simp [hi, hb]
      have hsize : off + m * z ≤ C.size := by
        obtain ⟨u, hu⟩ := hsome (m - 1) (by omega) (z - 1) (by omega)
        rw [hcell] at hu
        have hlt := (Array.getElem?_eq_some_iff.1 hu).1
        have : (m - 1) * z + z = m * z := by rw [← Nat.succ_mul]; congr 1; omega
        omega
      obtain ⟨xs, hxl, hxs⟩ := list_choose (n := len) (p := fun i (x : α) => (∀ (j : Nat) (l : LV) (u : Value), (enc' x)[j]? = some l → C[off + (i * z + j)]? = some u → ∀ μ, VR μ l u) ∧ sz x ≤ Rows.uptoBulk (D i)) (fun i hi => by
        obtain ⟨cs', q1, q2⟩ := hx i (by omega)
        obtain ⟨_, q3, q4⟩ := World.cells?_some q1
        obtain ⟨x, g1, g2⟩ := hel _ _ _ q2
        refine ⟨x, fun j l u hlj hu μ => ?_, g2⟩
        have hj : j < z := by have := (List.getElem?_eq_some_iff.1 hlj).1; rw [hc] at this; exact this
        refine g1 j l u hlj ?_ μ
        rw [← q4 j hj, Deep.add_add, hcell]
        exact hu)
      refine ⟨_, xs, rfl, .inr (.inr ⟨b, off, m, C, e', fr, by rw [hxl], by omega, hb, hsize, ?_, ?_⟩), ?_⟩
      · rw [flat_len hc]
      · intro q l u hq hu
        obtain ⟨x, hx1, hx2⟩ := flat_get hz hc hq
        refine ⟨h1 x l (List.mem_of_getElem? hx2), ?_⟩
        have := (hxs _ _ hx1).1 _ _ u hx2
        rw [Nat.div_add_mod' q z] at this
        exact this hu
      · have hb := bulk_sum (sz := sz) (xs := xs) (ds := (List.range len).map D) (by simp [hxl]) (fun i x d hx hd => by
          have hi := (List.getElem?_eq_some_iff.1 hx).1
          rw [List.getElem?_map, List.getElem?_range (by omega)] at hd
          simp at hd
          rw [← hd]
          exact (hxs _ _ hx).2)
        simp only [Rows.uptoBulk]
        omega
/-! ### Laid out -/
theorem in_row {W : World} {v : Value} {z n : Nat} {cells : List LV} (hg : G W) (h : InSl W v z n cells) : ∃ (e : TypeId) (cs : List LV) (loc : LZ.Loc) (pf : Nat → P3) (k : Nat), (∀ μ, ObjR μ loc W (.row e true cs)) ∧
    (∀ (σ : LZ.H) (r : Nat), σ.m.get r = some (.row e true cs) → r < σ.next → Rd σ z (pf r) n k cells) ∧ (∀ (μ : Mu) (r : Nat), μ r = some loc → VR μ (.slice (pf r) n k) v) := by
  obtain ⟨m, hm⟩ := hg
  have dummy : ∃ C e fr, W.heap[0]? = some (.cells C e fr) := by
    unfold World.cell? at hm
    split at hm
    · rename_i C e fr hb; exact ⟨C, e, fr, hb⟩
    · cases hm
  obtain ⟨C0, e0, fr0, hb0⟩ := dummy
  have hd : ∀ μ, ObjR μ ⟨0, 0, C0.size⟩ W (.row e0 true []) := fun μ => ⟨C0, fr0, hb0, rfl, ⟨by simp, fun i x v h => by simp at h⟩, fun h => (by cases h), fun x h => (by cases h)⟩
  rcases h with ⟨rfl, rfl, rfl⟩ | ⟨a, rfl, rfl, rfl⟩ | ⟨b, off, cap, C, e, fr, rfl, hn, hb, hs, hl, hv⟩
  · exact ⟨e0, [], _, fun _ => none, 0, hd, fun σ r _ _ => ⟨by simp, Nat.le_refl _, rfl⟩, fun μ r _ => .slice0⟩
  · exact ⟨e0, [], _, fun r => some (r, 0, z), 0, hd, fun σ r hr hlt => ⟨by simp, Nat.le_refl _, rfl, hlt, e0, true, [], hr, by simp [takeAt]⟩, fun μ r _ => .sliceE _ _⟩
  · refine ⟨e, cells, ⟨b, off, C.size⟩, fun r => some (r, 0, z), n, fun μ => ⟨C, fr, hb, rfl, ⟨?_, fun i x v hx hv' => (hv i x v hx hv').2 μ⟩, fun h => (by cases h), ?_⟩, fun σ r hr hlt => ⟨hl, Nat.le_refl _, rfl, hlt, e, true, cells, hr, ?_⟩, fun μ r hr => ?_⟩
    · show off + cells.length ≤ C.size
      rw [hl]
      have := Nat.mul_le_mul_right z hn
      omega
    · intro x hx
      obtain ⟨i, hi⟩ := List.getElem?_of_mem hx
      have hlt := (List.getElem?_eq_some_iff.1 hi).1
      have := Nat.mul_le_mul_right z hn
      have hlt2 : off + i < C.size := by omega
      exact (hv i x C[off + i] hi (by simp [hlt2])).1
    · rw [← hl]; exact takeAt_all cells
    · exact VR.slice (loc := ⟨b, off, C.size⟩) hr (Nat.le_refl _) hn (by show off + 0 + cap * z ≤ C.size; omega)
end Go.Proofs.YtamplhegepgaeaaDoor
end
section
/- AskBack: its contract, for every input of the bulk that is spoken of. -/
namespace Go.Proofs.YtamplhegepgaeaaDoor
open Go Go.LZ Go.ChangeShapes Go.WideShapes Go.ChangeAt Go.RowKit
set_option linter.unusedSimpArgs false
set_option linter.unusedVariables false
set_option maxRecDepth 20000
/-- Three slices, laid out. -/
theorem laid3 {W : World} (hg : G W) (hB : 1 ≤ W.heap.size) {v1 v2 v3 : Value} {z1 z2 z3 n1 n2 n3 : Nat} {c1 c2 c3 : List LV} (h1 : InSl W v1 z1 n1 c1) (h2 : InSl W v2 z2 n2 c2) (h3 : InSl W v3 z3 n3 c3) :
    ∃ (σ : LZ.H) (μ : Mu) (p1 p2 p3 : P3) (k1 k2 k3 : Nat), HR 1 G μ σ W ∧ (∀ r o, σ.m.get r = some o → o.rw = false) ∧ Rd σ z1 p1 n1 k1 c1 ∧ Rd σ z2 p2 n2 k2 c2 ∧ Rd σ z3 p3 n3 k3 c3 ∧
      VR μ (.slice p1 n1 k1) v1 ∧ VR μ (.slice p2 n2 k2) v2 ∧ VR μ (.slice p3 n3 k3) v3 := by
  obtain ⟨e1, cs1, loc1, pf1, k1, a1, b1, d1⟩ := in_row hg h1
  obtain ⟨e2, cs2, loc2, pf2, k2, a2, b2, d2⟩ := in_row hg h2
  obtain ⟨e3, cs3, loc3, pf3, k3, a3, b3, d3⟩ := in_row hg h3
  obtain ⟨σ1, _, q1, g1, f1⟩ := H.new_ok ⟨.nil, 0⟩ (.row e1 true cs1)
  obtain ⟨σ2, _, q2, g2, f2⟩ := H.new_ok σ1 (.row e2 true cs2)
  obtain ⟨σ3, _, q3, g3, f3⟩ := H.new_ok σ2 (.row e3 true cs3)
  replace q1 : σ1.next = 1 := q1
  replace q2 : σ2.next = 2 := by rw [q2, q1]
  replace q3 : σ3.next = 3 := by rw [q3, q2]
  have g3' : σ3.m.get 2 = some (.row e3 true cs3) := by rw [q2] at g3; exact g3
  have g2' : σ3.m.get 1 = some (.row e2 true cs2) := by rw [q1] at g2; rw [f3 1 (by omega)]; exact g2
  have g1' : σ3.m.get 0 = some (.row e1 true cs1) := by rw [f3 0 (by omega), f2 0 (by omega)]; exact g1
  have g0' : ∀ r, 3 ≤ r → σ3.m.get r = none := fun r hr => by
    rw [f3 r (by omega), f2 r (by omega), f1 r (by show r ≠ 0; omega)]
    simp [Tr.get]
  let μ : Mu := fun r => if r = 0 then some loc1 else if r = 1 then some loc2 else if r = 2 then some loc3 else none
  have hrw : ∀ r o, σ3.m.get r = some o → o.rw = false := by
    intro r o ho
    by_cases e : r = 0
    · subst e; rw [g1'] at ho; cases ho; rfl
    · by_cases e : r = 1
      · subst e; rw [g2'] at ho; cases ho; rfl
      · by_cases e : r = 2
        · subst e; rw [g3'] at ho; cases ho; rfl
        · rw [g0' r (by omega)] at ho; cases ho
  refine ⟨σ3, μ, pf1 0, pf2 1, pf3 2, k1, k2, k3, ⟨?_, ?_, ?_, hB, hg⟩, hrw, b1 σ3 0 g1' (by omega), b2 σ3 1 g2' (by omega), b3 σ3 2 g3' (by omega), d1 μ 0 rfl, d2 μ 1 rfl, d3 μ 2 rfl⟩
  · intro r o ho
    have hf := hrw r o ho
    by_cases e : r = 0
    · subst e; rw [g1'] at ho; cases ho; exact ⟨loc1, rfl, a1 μ, fun h => by cases h⟩
    · by_cases e : r = 1
      · subst e; rw [g2'] at ho; cases ho; exact ⟨loc2, rfl, a2 μ, fun h => by cases h⟩
      · by_cases e : r = 2
        · subst e; rw [g3'] at ho; cases ho; exact ⟨loc3, rfl, a3 μ, fun h => by cases h⟩
        · rw [g0' r (by omega)] at ho; cases ho
  · intro r r' o o' loc loc' ho ho' _ _ _ hx
    rw [hrw r o ho, hrw r' o' ho'] at hx
    rcases hx with hx | hx <;> cases hx
  · intro r hr
    rw [q3] at hr
    show (if r = 0 then some loc1 else if r = 1 then some loc2 else if r = 2 then some loc3 else none) = none
    rw [if_neg (by omega), if_neg (by omega), if_neg (by omega)]
/-! ### The elements -/
theorem cells60 : Tryd.prog.cellsOf 60 = 3 := by kernel_rfl
theorem cells62 : Tryd.prog.cellsOf 62 = 2 := by kernel_rfl
theorem cells5 : Tryd.prog.cellsOf 5 = 1 := by kernel_rfl
theorem cells9 : Tryd.prog.cellsOf 9 = 1 := by kernel_rfl
theorem cells4 : Tryd.prog.cellsOf 4 = 1 := by kernel_rfl
theorem cells3 : Tryd.prog.cellsOf 3 = 1 := by kernel_rfl
theorem cells2 : Tryd.prog.cellsOf 2 = 1 := by kernel_rfl
section
variable {H : Type} {enc : TypeId × Value → H} {W : World}
theorem bulk_part {H : Type} {d : DataW H} {l : List (DataW H)} (h : d ∈ l) : Rows.uptoBulk d ≤ Rows.uptoBulkAll l := by
  induction l with
  | nil => cases h
  | cons x r ih =>
    simp only [Rows.uptoBulkAll]
    cases List.mem_cons.1 h with
    | inl e => subst e; omega
    | inr e => have := ih e; omega
def szF (f : Fld) : Nat := f.name.length + f.value.length + 1
theorem el_fld (n : Nat) (cs' : List Value) (y : DataW H × List MemPlace) (h : DataW.trod enc Tryd.prog W 0 (fun _ => true) true n 60 cs' = some y) :
    ∃ x : Fld, (∀ (j : Nat) (l : LV) (c : Value), (encF x)[j]? = some l → cs'[j]? = some c → ∀ μ, VR μ l c) ∧ szF x ≤ Rows.uptoBulk y.1 := by
  obtain ⟨xs, k, hk, rfl, hlen, hxl, hf⟩ := DataW.trod_struct Tryd.underlying60 h
  rw [cells60] at hlen
  match xs, hxl, cs', hlen with
  | [y0, y1, y2], _, [u0, u1, u2], _ =>
    have f0 := hf 0 _ rfl
    have f1 := hf 1 _ rfl
    have f2 := hf 2 _ rfl
    simp [cells9, cells4] at f0 f1 f2
    obtain ⟨s0, e0, x0, _⟩ := DataW.trod_string Tryd.underlying9 f0
    obtain ⟨s1, e1, x1, _⟩ := DataW.trod_string Tryd.underlying9 f1
    obtain ⟨b2, e2, x2⟩ := DataW.trod_bool Tryd.underlying4 f2
    simp only [List.drop_zero, List.take_succ_cons, List.take_zero, List.drop_succ_cons, List.cons.injEq, and_true] at e0 e1 e2
    subst e0; subst e1; subst e2; subst x0; subst x1; subst x2
    refine ⟨⟨s0.data.toList, s1.data.toList, b2⟩, ?_, ?_⟩
    · intro j l c hl hc μ
      match j with
      | 0 => cases hl; cases hc; exact VR.str (μ := μ) s0.data.toList
      | 1 => cases hl; cases hc; exact VR.str (μ := μ) s1.data.toList
      | 2 => cases hl; cases hc; exact .bool _
      | j + 3 => simp [encF] at hl
    · simp only [szF, Rows.uptoBulk, Rows.uptoBulkAll, List.map_cons, List.map_nil]
      omega
theorem el_stg (n : Nat) (cs' : List Value) (y : DataW H × List MemPlace) (h : DataW.trod enc Tryd.prog W 0 (fun _ => true) true n 62 cs' = some y) :
    ∃ x : Stg, (∀ (j : Nat) (l : LV) (c : Value), (encT x)[j]? = some l → cs'[j]? = some c → ∀ μ, VR μ l c) ∧ 1 ≤ Rows.uptoBulk y.1 := by
  obtain ⟨xs, k, hk, rfl, hlen, hxl, hf⟩ := DataW.trod_struct Tryd.underlying62 h
  rw [cells62] at hlen
  match xs, hxl, cs', hlen with
  | [y0, y1], _, [u0, u1], _ =>
    have f0 := hf 0 _ rfl
    have f1 := hf 1 _ rfl
    simp [cells3, cells2] at f0 f1
    obtain ⟨m0, e0, x0, _⟩ := DataW.trod_int Tryd.underlying3 f0
    obtain ⟨m1, e1, x1, _⟩ := DataW.trod_int Tryd.underlying2 f1
    simp only [List.drop_zero, List.take_succ_cons, List.take_zero, List.drop_succ_cons, List.cons.injEq, and_true] at e0 e1
    subst e0; subst e1; subst x0; subst x1
    refine ⟨⟨m0, m1⟩, ?_, ?_⟩
    · intro j l c hl hc μ
      match j with
      | 0 => cases hl; cases hc; exact .int _ _
      | 1 => cases hl; cases hc; exact .int _ _
      | j + 2 => simp [encT] at hl
    · simp only [Rows.uptoBulk]
      omega
theorem el_byte (n : Nat) (cs' : List Value) (y : DataW H × List MemPlace) (h : DataW.trod enc Tryd.prog W 0 (fun _ => true) true n 5 cs' = some y) :
    ∃ x : UInt8, (∀ (j : Nat) (l : LV) (c : Value), (encB x)[j]? = some l → cs'[j]? = some c → ∀ μ, VR μ l c) ∧ 1 ≤ Rows.uptoBulk y.1 := by
  obtain ⟨m, rfl, rfl, hw⟩ := DataW.trod_int Tryd.underlying5 h
  have hx : 0 ≤ m ∧ m ≤ 255 := by simpa [Lit.wf, IntKind.min, IntKind.max, IntKind.signed, IntKind.bits] using hw
  refine ⟨UInt8.ofNat m.toNat, ?_, by simp [Rows.uptoBulk]⟩
  intro j l c hl hc μ
  match j with
  | 0 =>
    cases hl; cases hc
    have : ((UInt8.ofNat m.toNat).toNat : Int) = m := by rw [UInt8.toNat_ofNat']; omega
    show VR μ (.int .u8 ((UInt8.ofNat m.toNat).toNat : Int)) _
    rw [this]
    exact .int _ _
  | j + 1 => simp [encB] at hl
end
end Go.Proofs.YtamplhegepgaeaaDoor
end
section
/- AskBack: the law holds of every input of the bulk that is spoken of. -/
namespace Go.Proofs.YtamplhegepgaeaaDoor
open Go Go.LZ Go.ChangeShapes Go.WideShapes Go.ChangeAt Go.RowKit
set_option linter.unusedSimpArgs false
set_option linter.unusedVariables false
set_option maxRecDepth 20000
theorem T_append (a b : List B) : (T (a ++ b)).length = (T a).length + (T b).length := by simp [T]
theorem T_flines : ∀ fs : List Fld, (T (fs.map fline)).length ≤ 4 * (fs.map szF).sum
  | [] => by simp [T]
  | f :: fs => by
    have ih := T_flines fs
    rw [List.map_cons, T_cons, List.map_cons, List.sum_cons]
    simp only [List.length_append, fline, crlf, szF, List.length_cons, List.length_nil]
    omega
theorem sum_drop (fs : List Fld) (n : Nat) : ((fs.drop n).map szF).sum ≤ (fs.map szF).sum := by
  have : (fs.map szF).sum = ((fs.take n).map szF).sum + ((fs.drop n).map szF).sum := by
    rw [← List.sum_append, ← List.map_append, List.take_append_drop]
  omega
theorem sum_mem : ∀ {fs : List Fld} {f : Fld}, f ∈ fs → szF f ≤ (fs.map szF).sum
  | g :: fs, f, h => by
    rw [List.map_cons, List.sum_cons]
    rcases List.mem_cons.1 h with rfl | h
    · omega
    · have := sum_mem h; omega
theorem sum_len : ∀ fs : List Fld, fs.length ≤ (fs.map szF).sum
  | [] => by simp
  | f :: fs => by
    have := sum_len fs
    rw [List.map_cons, List.sum_cons, List.length_cons]
    simp only [szF]
    omega
theorem ask_room {fs : List Fld} {ss : List Stg} (hf : (fs.map szF).sum ≤ 1048576) (hs : ss.length ≤ 1048576) {i : Nat} {m : List (B × B)} (h : headsL fs = some (i, m)) : (askT fs ss m).length ≤ 1099511627776 := by
  have hsm : smallF 1048576 fs := fun f hfm => by have := sum_mem hfm; simp only [szF] at this; omega
  have hm : smallM 1048576 m := runH_small h (fun _ h => by cases h) hsm
  have e : askT fs ss m = T (lines5 m ss ++ (fs.drop 4).map fline) ++ crlf := by
    unfold askT
    rw [show lines5 m ss = (val kMethod m ++ [32] ++ val kPath m ++ sHttp1) :: [sHost ++ val kAuth m, sConn, sUpg, sSet ++ codeL (ss.flatMap setB)] from rfl, List.cons_append, ← join_T]
  rw [e, List.length_append, T_append]
  have h1 := T_flines (fs.drop 4)
  have h2 := sum_drop fs 4
  have h3 := hm.val kMethod
  have h4 := hm.val kPath
  have h5 := hm.val kAuth
  have h6 := codeL_length (ss.flatMap setB)
  rw [setsB_length] at h6
  have h7 : (T (lines5 m ss)).length ≤ 1048576 + 1048576 + 1048576 + (2 * (6 * ss.length) + 1) + 1000 := by
    simp only [lines5, T, List.flatMap_cons, List.flatMap_nil, List.length_append, List.length_nil, List.length_cons, crlf, sHttp1, sHost, sConn, sUpg, sSet]
    omega
  have h8 : crlf.length = 2 := rfl
  omega
theorem laidOut : laidOutB Tryd.prog = true := by kernel_rfl
theorem contract (H : Type) (enc : TypeId × Value → H) (W : World) (base : Nat) (args : Array Value) (ds gs : List (DataW H)) (before : List MemPlace)
    (hval : ∀ (j : Nat) t v, Tryd.f3.params[j]? = some t → args[j]? = some v → Value.okWide Tryd.prog W .any base t v)
    (hW : DataW.Whole enc Tryd.prog Tryd.f3.params.toList Rows.askBackSpec.vars false W args.toList ds gs before) (hcond : Rows.uptoSmall H (ds ++ gs) = true) (hsh : W.ShapedOpen Tryd.prog) :
    Calls Tryd.prog 3 args W fun e W' => ∃ v, e = .returned v ∧ Rows.askBackSpec.post enc Tryd.prog Tryd.f3 false true false false W args v W' := by
  have hW' := hW
  obtain ⟨p, q, hA0, hV, rfl, hfz, hnd⟩ := hW
  have hA : DataW.TrodAll enc Tryd.prog W 0 (fun _ => true) true Tryd.f3.params.toList args.toList ds p := hA0
  rw [Tryd.params3] at hA hval
  obtain ⟨v0, vs0, d0, ds0, p0, q0, hargs, rfl, rfl, h0, r0⟩ := trodAll_cons hA
  obtain ⟨v1, vs1, d1, ds1, p1, q1, rfl, rfl, rfl, h1, r1⟩ := trodAll_cons r0
  obtain ⟨v2, vs2, d2, ds2, p2, q2, rfl, rfl, rfl, h2, r2⟩ := trodAll_cons r1
  obtain ⟨v3, vs3, d3, ds3, p3, q3, rfl, rfl, rfl, h3, r3⟩ := trodAll_cons r2
  obtain ⟨rfl, rfl, rfl⟩ := trodAll_nil r3
  obtain rfl : args = #[v0, v1, v2, v3] := by cases args; simp_all
  obtain ⟨rfl, rfl⟩ := trodVars_none hV
  have h0k := h0
  have h1k := h1
  have h2k := h2
  have h3k := h3
  obtain ⟨a0, l0, c0, rfl⟩ := okWide_slice Tryd.underlying22 (hval 0 22 v0 rfl rfl)
  obtain ⟨a1, l1, c1, rfl⟩ := okWide_slice Tryd.underlying23 (hval 1 23 v1 rfl rfl)
  obtain ⟨a2, l2, c2, rfl⟩ := okWide_slice Tryd.underlying24 (hval 2 24 v2 rfl rfl)
  obtain ⟨at_, rfl, rfl, rfl, wat⟩ := open_int Tryd.underlying3 (hval 3 3 v3 rfl rfl) h3
  obtain ⟨fu0, hf0⟩ := h0
  obtain ⟨fu1, hf1⟩ := h1
  obtain ⟨fu2, hf2⟩ := h2
  obtain ⟨w0, fs, e0, i0, b0⟩ := open_in (enc' := encF) (sz := szF) Tryd.underlying22 cells60 (by decide) (fun _ => rfl) (fun x y hy => by simp only [encF, List.mem_cons, List.not_mem_nil, or_false] at hy; rcases hy with rfl | rfl | rfl <;> rfl) el_fld hf0
  obtain ⟨w1, ss, e1, i1, b1⟩ := open_in (enc' := encT) (sz := fun _ => 1) Tryd.underlying23 cells62 (by decide) (fun _ => rfl) (fun x y hy => by simp only [encT, List.mem_cons, List.not_mem_nil, or_false] at hy; rcases hy with rfl | rfl <;> rfl) el_stg hf1
  obtain ⟨w2, more, e2, i2, b2⟩ := open_in (enc' := encB) (sz := fun _ => 1) Tryd.underlying24 cells5 (by decide) (fun _ => rfl) (fun x y hy => by simp only [encB, List.mem_cons, List.not_mem_nil, or_false] at hy; rcases hy with rfl; rfl) el_byte hf2
  simp [Value.cells] at e0 e1 e2
  subst e0; subst e1; subst e2
  simp only [Rows.uptoSmall, List.append_nil, Rows.uptoBulkAll, decide_eq_true_eq] at hcond
  simp only [List.map_const', List.sum_replicate_nat, Nat.mul_one] at b1 b2
  replace b0 : (fs.map szF).sum ≤ Rows.uptoBulk d0 := b0
  obtain ⟨mg, hmg⟩ := cell_of_shapedOpen_int (P := Tryd.prog) (g := 0) (t := 3) (zero := #[.int .i64 0]) hsh (of_decide_eq_true (by kernel_rfl)) (by kernel_rfl) rfl (by kernel_rfl) (by kernel_rfl) Tryd.underlying3
  have hg : G W := ⟨mg, hmg⟩
  have hB : 1 ≤ W.heap.size := World.block_lt_of_cell? _ _ hmg
  obtain ⟨σ, μ, P0, P1, P2, k0, k1, k2, hr, hrw, R0, R1, R2, V0, V1, V2⟩ := laid3 hg hB i0 i1 i2
  have hb2 : RdB σ P2 more.length k2 more := RdL.toB ⟨R2, rfl, fun _ => rfl⟩
  have hlaw := askBack_wf fs ss more P0 P1 P2 _ k0 _ k1 _ k2 at_ σ ⟨R0, rfl, fun _ => rfl⟩ ⟨R1, rfl, fun _ => rfl⟩ hb2
    (fun f hfm => by have := sum_mem hfm; simp only [szF] at this; omega) (by have := sum_len fs; omega) (by omega) (by omega)
    (fun i m hm => ask_room (by omega) (by omega) hm) (fun b hb hmo => (law_back hb).1 more hmo) (fun b m hb hm => (law_back hb).2 m hm)
  obtain ⟨k, v', σ', hrun, rfl⟩ := hlaw
  have hcall := run_calls ok hrun (vs := #[.slice a0 l0 c0, .slice a1 l1 c1, .slice a2 l2 c2, .int .i64 at_]) (.cons V0 (.cons V1 (.cons V2 (.cons (.int _ _) (.nil _))))) hr
  refine hcall.mono fun e W' hp => ?_
  obtain ⟨u, μ', rfl, hv, hh, hs⟩ := hp
  cases hv
  have bel : Below W.heap.size W W' := ⟨hs.os, hs.tape, hs.output, hs.size, fun b hb => hs.keep b hb fun ⟨r, o, loc, hro, hrw', _⟩ => by rw [hrw r o hro] at hrw'; cases hrw'⟩
  simp only [List.append_nil] at hW'
  have hlt : ∀ x ∈ p0 ++ (p1 ++ (p2 ++ [])), x.block < W.heap.size := fun x hx => by simpa using hW'.lt x (by simpa using hx)
  refine ⟨_, rfl, _, _, _, [], p0 ++ (p1 ++ (p2 ++ ([] ++ []))), [], hW', ?_, ?_, by simp [DataW.TrodVars, Rows.askBackSpec], bel.frame _, fun h => by cases h⟩
  · exact trodAll_mk1 (shut_bool Tryd.underlying4 _)
  · rw [Tryd.params3]
    refine trodAll_cons_mk (Below.trod laidOut (by kernel_rfl) (of_decide_eq_true (by kernel_rfl)) h0k bel (fun x hx => hlt x (by simp [hx]))) ?_
    refine trodAll_cons_mk (Below.trod laidOut (by kernel_rfl) (of_decide_eq_true (by kernel_rfl)) h1k bel (fun x hx => hlt x (by simp [hx]))) ?_
    refine trodAll_cons_mk (Below.trod laidOut (by kernel_rfl) (of_decide_eq_true (by kernel_rfl)) h2k bel (fun x hx => hlt x (by simp [hx]))) ?_
    exact trodAll_cons_mk (shut_int Tryd.underlying3 wat) trodAll_mk0
end Go.Proofs.YtamplhegepgaeaaDoor
end
section
/- AskBack, there and back and no front of it: the claim, where what it reads is of bulk at most 1048576. -/
namespace Go.Proofs.YtamplhegepgaeaaDoor
open Go Go.LZ Go.ChangeShapes Go.WideShapes Go.ChangeAt Go.RowKit
set_option linter.unusedSimpArgs false
set_option linter.unusedVariables false
theorem own : ownKnob Tryd.prog.godebug = none := by kernel_rfl
def layAt (cs : Array Value) : Go.Obj → Go.Obj
  | .cells _ t fr => .cells cs t fr
  | o => o
/-- A world for the witness: the listed tables hold what their initialisers lay. -/
noncomputable def laidWorld (os : Os) : World :=
  { World.holding Tryd.prog os ⟨#[], #[], []⟩ with heap := ((World.holding Tryd.prog os ⟨#[], #[], []⟩).heap.modify 1 (layAt (Go.Pinned.utf8FirstZ.map fun (z : Nat) => Value.int .u8 (z : Int)).toArray)).modify 2 (layAt #[.int .u8 128, .int .u8 191, .int .u8 160, .int .u8 191, .int .u8 128, .int .u8 159, .int .u8 144, .int .u8 191, .int .u8 128, .int .u8 143, .int .u8 0, .int .u8 0, .int .u8 0, .int .u8 0, .int .u8 0, .int .u8 0, .int .u8 0, .int .u8 0, .int .u8 0, .int .u8 0, .int .u8 0, .int .u8 0, .int .u8 0, .int .u8 0, .int .u8 0, .int .u8 0, .int .u8 0, .int .u8 0, .int .u8 0, .int .u8 0, .int .u8 0, .int .u8 0]) }
def wargs : Array Value := #[.slice none 0 0, .slice none 0 0, .slice none 0 0, .int .i64 0]
theorem laid_met (os : Os) : laidMet Tryd.prog Rows.askBackUptoRow.laid ((laidWorld os).forCall (fun _ _ => 0) ⟨#[], wargs, []⟩).memory :=
  laidMet_of_run' 8 (by kernel_rfl) (by kernel_rfl)
theorem reads (os : Os) {H : Type} (enc : TypeId × Value → H) : ∃ places, DataW.whole enc Tryd.prog ((laidWorld os).forCall (fun _ _ => 0) ⟨#[], wargs, []⟩).memory Tryd.f3.params.toList Rows.askBackSpec.vars false wargs.toList 8 = some ([.nil, .nil, .nil, .lit (.int .i64 0)], [], places) :=
  ⟨[], by kernel_rfl⟩
set_option maxRecDepth 100000 in
theorem liftedUpto (os : Os) (started : os.Started) (H : Type) (enc : TypeId × Value → H) (F : Stop.Interp) :
    ReturnsInHanded {} Tryd.checked os 3 .any ((Rows.OpenSpec.upto Rows.askBackSpec).preRow enc Tryd.prog Tryd.f3 Rows.askBackUptoRow.domain false Rows.askBackUptoRow.laid) (((Rows.OpenSpec.upto Rows.askBackSpec).at F).post enc Tryd.prog Tryd.f3 false true false false) := by
  obtain ⟨places, hx⟩ := reads os enc
  refine returnsInHanded_of_row (C := Tryd.checked) (s := Rows.OpenSpec.upto Rows.askBackSpec) own started (by kernel_rfl) Tryd.func3
    (witness_row_at (enc := enc) (C := Tryd.checked) false (laidWorld os) wargs rfl (by kernel_rfl) (by kernel_rfl) (by kernel_rfl)
      (OpenSpec.preRow_of_cond 8 hx (by kernel_rfl) (fun k hk => by cases hk; kernel_rfl) (by kernel_rfl) (laid_met os))) ?_
  intro W base args ds gs before hval hW _ hcond _ hL hsh _
  exact contract H enc W base args ds gs before hval hW (hcond _ rfl) hsh
theorem saidUpto : Rows.AskBackUptoSaid :=
  OpenClaim.holds_of_cond 3 Tryd.f3 rfl rfl rfl rfl rfl rfl rfl ⟨rfl, rfl, rfl, rfl, rfl⟩ rfl rfl rfl rfl rfl (by kernel_rfl) Tryd.func3 (by kernel_rfl)
    (of_decide_eq_true (by kernel_rfl)) (by unfold Func.isWrapper; first | (rw [if_pos (by decide +kernel)]; kernel_rfl) | (rw [if_neg (by decide +kernel)]; exact ⟨rfl, rfl⟩))
    (fun os started H enc _ F => by rw [OpenClaim.pre_eq_preRow]; exact liftedUpto os started H enc F)
/-- No parameter wants a stand-in; the program's own looks are off. -/
theorem plain (f : FuncId) (fn : Func) (hf : Tryd.pinned.checked.prog.funcNamed "isthmus/isthmuslaw18.AskBack" = some f) (hfn : Tryd.pinned.checked.prog.funcs[f]? = some fn) :
    true = Tryd.pinned.checked.prog.looks [] ∧ ∀ (j : Nat) t, fn.params[j]? = some t → Tryd.pinned.checked.prog.wantsStandIn t = false := by
  obtain rfl : f = 3 := Option.some.inj ((show Tryd.prog.funcNamed "isthmus/isthmuslaw18.AskBack" = some 3 by kernel_rfl).symm.trans hf) |>.symm
  obtain rfl : fn = Tryd.f3 := (Option.some.inj (Tryd.func3.symm.trans hfn)).symm
  refine ⟨by kernel_rfl, fun j t ht => ?_⟩
  rw [Tryd.params3] at ht
  have hm : t = 22 ∨ t = 23 ∨ t = 24 ∨ t = 3 := by simpa using Array.mem_of_getElem? ht
  rcases hm with rfl | rfl | rfl | rfl
  · exact (show Tryd.prog.wantsStandIn 22 = false by kernel_rfl)
  · exact (show Tryd.prog.wantsStandIn 23 = false by kernel_rfl)
  · exact (show Tryd.prog.wantsStandIn 24 = false by kernel_rfl)
  · exact (show Tryd.prog.wantsStandIn 3 = false by kernel_rfl)
/-- The card. -/
theorem askBackUpto : Rows.AskBackUptoCardSaid :=
  Claim7.holds_tied_plain_at .later [] _ _ _ _ saidUpto (fun _ h => by cases h) (by kernel_rfl) (fun _ h => by cases h) askBackUpto_row_tie rfl ⟨rfl, rfl⟩ (by kernel_rfl) rfl plain (by kernel_rfl)
end Go.Proofs.YtamplhegepgaeaaDoor
end

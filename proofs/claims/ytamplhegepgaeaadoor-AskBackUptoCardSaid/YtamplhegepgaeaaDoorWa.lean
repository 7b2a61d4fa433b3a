/- The walks of this law's functions, first part. -/
import Derived.Test.YtamplhegepgaeaaDoorLb
import Derived.Test.YtamplhegepgaeaaDoorProg
section
/- The evaluator at this program: which functions are told by their contracts. -/
namespace Go.Proofs.YtamplhegepgaeaaDoor
open Go Go.LZ
def isCtl (b : UInt8) : Bool := b == 0 || b == 10 || b == 13
def extCtl : List LV → LZ.H → Option (LV × LZ.H)
  | [.str s, .str [0, 10, 13]], σ => if LZ.small s then some (.bool (s.any isCtl), σ) else none
  | _, _ => none
theorem extCtl_eq {s : List UInt8} (h : s.length ≤ 1048576) (σ : LZ.H) : extCtl [.str s, .str [0, 10, 13]] σ = some (.bool (s.any isCtl), σ) := by
  have : LZ.small s = true := by simpa [LZ.small] using h
  simp only [extCtl, this, if_true]
/-- The closed sentence of this layer: it holds. -/
def extBegun : List LV → LZ.H → Option (LV × LZ.H)
  | [], σ => some (.bool true, σ)
  | _, _ => none
def ext (f : Nat) : Option (List LV → LZ.H → Option (LV × LZ.H)) :=
  match f with
  | 8 => some extBegun
  | 37 => some extJoin
  | 58 => some extIndexByte
  | 60 => some extCut
  | 75 => some extTrimLeft
  | 105 => some extCtl
  | _ => none
theorem byte_back (b : UInt8) : ((b.toNat : Int).toNat).toUInt8 = b := by simp
theorem indexByte_wf (s : List UInt8) (c : UInt8) (σ : LZ.H) : WF Tryd.prog ext 58 [.str s, .int .u8 (c.toNat : Int)] σ (fun v σ' => v = .int .i64 (Lib.indexByte s c) ∧ σ' = σ) :=
  WF.extern (g := extIndexByte) rfl rfl ⟨by rw [byte_back], rfl⟩
end Go.Proofs.YtamplhegepgaeaaDoor
end
section
/- Walks of this layer's functions on the logical memory, part 1: bytes and texts. -/
open Go Go.LZ
namespace Go.Proofs.YtamplhegepgaeaaDoor
set_option maxRecDepth 10000
set_option linter.unusedSimpArgs false
set_option linter.unusedVariables false
def text (c : UInt8) : Bool := decide (32 ≤ c.toNat) && decide (c.toNat ≤ 126) || decide (c.toNat = 9)
def graph (c : UInt8) : Bool := decide (33 ≤ c.toNat) && decide (c.toNat ≤ 126)
def great (c : UInt8) : Bool := decide (65 ≤ c.toNat) && decide (c.toNat ≤ 90)
def blank (c : UInt8) : Bool := decide (c.toNat = 32) || decide (c.toNat = 9)
theorem text_wf (c : UInt8) (σ : LZ.H) : WF Tryd.prog ext 65 [.int .u8 (c.toNat : Int)] σ (fun v σ' => v = .bool (text c) ∧ σ' = σ) := by
  refine WF.body rfl Tryd.func65 rfl rfl ?_
  refine WC.seq ?_
  refine WC.region ?_
  refine WO.run 1 rfl ?_
  refine WO.nil ?_
  show WC _ _ _ _ _ _
  refine WC.seq ?_
  refine WC.region ?_
  refine WO.run 2 rfl ?_
  refine WO2.both rfl rfl (fun h5 => ?_) (fun h5 => ?_)
  · refine ⟨_, rfl, ?_⟩
    replace h5 := of_decide_eq_true h5
    refine WO.run 3 rfl ?_
    refine WO2.both rfl rfl (fun h9 => ?_) (fun h9 => ?_)
    · refine ⟨_, rfl, ?_⟩
      replace h9 := of_decide_eq_true h9
      refine WO.run 4 rfl ?_
      refine WO.nil ?_
      show WC _ _ _ _ _ _
      refine WC.ret ?_
      refine ⟨_, (res_tmp rfl res_nil), ?_⟩
      refine ⟨?_, rfl⟩
      simp only [outL, LV.bool.injEq, text]
      all_goals (rw [Bool.eq_iff_iff]; simp <;> omega)
    · refine ⟨_, rfl, ?_⟩
      replace h9 := of_decide_eq_false h9
      refine WO.run 4 rfl ?_
      refine WO.nil ?_
      show WC _ _ _ _ _ _
      refine WC.ret ?_
      refine ⟨_, (res_tmp rfl res_nil), ?_⟩
      refine ⟨?_, rfl⟩
      simp only [outL, LV.bool.injEq, text]
      all_goals (rw [Bool.eq_iff_iff]; simp <;> omega)
  · refine ⟨_, rfl, ?_⟩
    replace h5 := of_decide_eq_false h5
    refine WO.run 8 rfl ?_
    refine WO.nil ?_
    show WC _ _ _ _ _ _
    refine WC.ret ?_
    refine ⟨_, (res_tmp rfl res_nil), ?_⟩
    refine ⟨?_, rfl⟩
    simp only [outL, LV.bool.injEq, text]
    all_goals (rw [Bool.eq_iff_iff]; simp <;> omega)
theorem graph_wf (c : UInt8) (σ : LZ.H) : WF Tryd.prog ext 66 [.int .u8 (c.toNat : Int)] σ (fun v σ' => v = .bool (graph c) ∧ σ' = σ) := by
  refine WF.body rfl Tryd.func66 rfl rfl ?_
  refine WC.seq ?_
  refine WC.region ?_
  refine WO.run 1 rfl ?_
  refine WO.nil ?_
  show WC _ _ _ _ _ _
  refine WC.seq ?_
  refine WC.region ?_
  refine WO.run 2 rfl ?_
  refine WO2.both rfl rfl (fun h5 => ?_) (fun h5 => ?_)
  · refine ⟨_, rfl, ?_⟩
    replace h5 := of_decide_eq_true h5
    refine WO.run 4 rfl ?_
    refine WO.nil ?_
    show WC _ _ _ _ _ _
    refine WC.ret ?_
    refine ⟨_, (res_tmp rfl res_nil), ?_⟩
    refine ⟨?_, rfl⟩
    simp only [outL, LV.bool.injEq, graph]
    all_goals (rw [Bool.eq_iff_iff]; simp <;> omega)
  · refine ⟨_, rfl, ?_⟩
    replace h5 := of_decide_eq_false h5
    refine WO.run 4 rfl ?_
    refine WO.nil ?_
    show WC _ _ _ _ _ _
    refine WC.ret ?_
    refine ⟨_, (res_tmp rfl res_nil), ?_⟩
    refine ⟨?_, rfl⟩
    simp only [outL, LV.bool.injEq, graph]
    all_goals (rw [Bool.eq_iff_iff]; simp <;> omega)
theorem great_wf (c : UInt8) (σ : LZ.H) : WF Tryd.prog ext 90 [.int .u8 (c.toNat : Int)] σ (fun v σ' => v = .bool (great c) ∧ σ' = σ) := by
  refine WF.body rfl Tryd.func90 rfl rfl ?_
  refine WC.seq ?_
  refine WC.region ?_
  refine WO.run 1 rfl ?_
  refine WO.nil ?_
  show WC _ _ _ _ _ _
  refine WC.seq ?_
  refine WC.region ?_
  refine WO.run 2 rfl ?_
  refine WO2.both rfl rfl (fun h5 => ?_) (fun h5 => ?_)
  · refine ⟨_, rfl, ?_⟩
    replace h5 := of_decide_eq_true h5
    refine WO.run 4 rfl ?_
    refine WO.nil ?_
    show WC _ _ _ _ _ _
    refine WC.ret ?_
    refine ⟨_, (res_tmp rfl res_nil), ?_⟩
    refine ⟨?_, rfl⟩
    simp only [outL, LV.bool.injEq, great]
    all_goals (rw [Bool.eq_iff_iff]; simp <;> omega)
  · refine ⟨_, rfl, ?_⟩
    replace h5 := of_decide_eq_false h5
    refine WO.run 4 rfl ?_
    refine WO.nil ?_
    show WC _ _ _ _ _ _
    refine WC.ret ?_
    refine ⟨_, (res_tmp rfl res_nil), ?_⟩
    refine ⟨?_, rfl⟩
    simp only [outL, LV.bool.injEq, great]
    all_goals (rw [Bool.eq_iff_iff]; simp <;> omega)
theorem blank_wf (c : UInt8) (σ : LZ.H) : WF Tryd.prog ext 106 [.int .u8 (c.toNat : Int)] σ (fun v σ' => v = .bool (blank c) ∧ σ' = σ) := by
  refine WF.body rfl Tryd.func106 rfl rfl ?_
  refine WC.seq ?_
  refine WC.region ?_
  refine WO.run 1 rfl ?_
  refine WO.nil ?_
  show WC _ _ _ _ _ _
  refine WC.seq ?_
  refine WC.region ?_
  refine WO.run 2 rfl ?_
  refine WO2.both rfl rfl (fun h5 => ?_) (fun h5 => ?_)
  · refine ⟨_, rfl, ?_⟩
    replace h5 := eq_of_beq h5
    refine WO.run 4 rfl ?_
    refine WO.nil ?_
    show WC _ _ _ _ _ _
    refine WC.ret ?_
    refine ⟨_, (res_tmp rfl res_nil), ?_⟩
    refine ⟨?_, rfl⟩
    simp only [outL, LV.bool.injEq, blank]
    all_goals (rw [Bool.eq_iff_iff]; simp <;> omega)
  · refine ⟨_, rfl, ?_⟩
    replace h5 := ne_of_beq_false h5
    refine WO.run 4 rfl ?_
    refine WO.nil ?_
    show WC _ _ _ _ _ _
    refine WC.ret ?_
    refine ⟨_, (res_tmp rfl res_nil), ?_⟩
    refine ⟨?_, rfl⟩
    simp only [outL, LV.bool.injEq, blank]
    all_goals (rw [Bool.eq_iff_iff]; simp <;> omega)
theorem all_take {p : UInt8 → Bool} {s : List UInt8} {i : Nat} (hi : i < s.length) (h : (s.take i).all p = true) (hc : p (s.getD i 0) = true) : (s.take (i + 1)).all p = true := by
  rw [List.take_succ_eq_append_getElem hi, List.all_append]
  simp_all
theorem all_not {p : UInt8 → Bool} {s : List UInt8} {i : Nat} (hi : i < s.length) (hc : p (s.getD i 0) = false) : s.all p = false := by
  simp only [List.all_eq_false]
  exact ⟨s[i], List.getElem_mem hi, by simpa [hi] using hc⟩
theorem all_wf (p : UInt8 → Bool) (g : Nat) (hp : ∀ (c : UInt8) (σ : LZ.H), WF Tryd.prog ext g [.int .u8 (c.toNat : Int)] σ (fun v σ' => v = .bool (p c) ∧ σ' = σ)) (s : List UInt8) (hs : s.length ≤ 16777216) (σ : LZ.H) :
    WF Tryd.prog ext 64 [.str s, .func g []] σ (fun v σ' => v = .bool (s.all p) ∧ σ' = σ) := by
  refine WF.body rfl Tryd.func64 rfl rfl ?_
  refine WC.seq ?_
  refine WC.region ?_
  refine WO.run 1 rfl ?_
  refine WO.nil ?_
  show WC _ _ _ _ _ _
  refine WC.seq ?_
  refine WC.seq ?_
  refine WC.region ?_
  refine WO.run 3 rfl ?_
  refine WO.nil ?_
  show WC _ _ _ _ _ _
  refine WC.block ?_
  refine WC.lp1 (fun (i : Nat) => [(8, .int .i64 (i : Int))]) [4, 5, 9, 10, 11, 12, 13, 14, 15, 16, 17] (fun (i : Nat) => fun τ => τ = σ ∧ i ≤ s.length ∧ (s.take i).all p = true) (fun (i : Nat) => s.length - i) (0) (fun _ _ => rfl) rfl ⟨rfl, by omega, rfl⟩ ?_
  rintro i g τ ⟨rfl, hi, hall⟩
  refine WC.seq ?_
  refine WC.region ?_
  refine WO.run 1 rfl ?_
  refine WO.nil ?_
  show WC _ _ _ _ _ _
  refine WC.seq ?_
  refine WC.cond rfl (fun c9 => ?_) (fun c9 => ?_)
  · replace c9 := of_decide_eq_true c9
    refine WC.skip ?_
    show WC _ _ _ _ _ _
    refine WC.seq ?_
    refine WC.block ?_
    refine WC.seq ?_
    refine WC.region ?_
    refine WO.run 2 rfl ?_
    refine WO.nil ?_
    show WC _ _ _ _ _ _
    refine WC.seq ?_
    refine WC.region ?_
    refine WO.run 3 rfl ?_
    first
      | refine WO3.indexStr rfl rfl rfl rfl rfl (by omega) rfl ?_
      | refine WO2.indexStr rfl rfl rfl rfl rfl (by omega) rfl ?_
    refine WO2.call rfl rfl rfl rfl rfl ?_
    refine WF.mono (hp _ _) ?_
    rintro _ _ ⟨rfl, rfl⟩
    refine ⟨_, rfl, ?_⟩
    refine WO.run 1 rfl ?_
    refine WO.nil ?_
    show WC _ _ _ _ _ _
    refine WC.cond rfl (fun c16 => ?_) (fun c16 => ?_)
    · replace c16 := not_true_eq c16
      refine WC.seq ?_
      refine WC.region ?_
      refine WO.run 1 rfl ?_
      refine WO.nil ?_
      show WC _ _ _ _ _ _
      refine WC.ret ?_
      refine ⟨_, (res_tmp rfl res_nil), ?_⟩
      refine ⟨?_, rfl⟩
      simp only [outL, LV.bool.injEq]
      first
        | (have hx : i = s.length := by omega
           subst hx
           rw [List.take_length] at hall
           exact hall.symm)
        | exact (all_not (i := i) (by omega) (by assumption)).symm
    · replace c16 := not_false_eq c16
      refine WC.skip ?_
      show WC _ _ _ _ _ _
      refine WC.region ?_
      refine WO2.val (v' := .int .i64 ((i + 1 : Nat) : Int)) rfl rfl (iv_wrap (by omega) (by omega)) rfl ?_
      refine WO.run 1 rfl ?_
      refine WO.nil ?_
      exact ⟨i + 1, rfl, ⟨rfl, by omega, all_take (by omega) hall (by assumption)⟩, by omega⟩
  · replace c9 := of_decide_eq_false c9
    refine WC.exit ?_
    show WC _ _ _ _ _ _
    refine WC.seq ?_
    refine WC.region ?_
    refine WO.run 1 rfl ?_
    refine WO.nil ?_
    show WC _ _ _ _ _ _
    refine WC.ret ?_
    refine ⟨_, (res_tmp rfl res_nil), ?_⟩
    refine ⟨?_, rfl⟩
    simp only [outL, LV.bool.injEq]
    first
      | (have hx : i = s.length := by omega
         subst hx
         rw [List.take_length] at hall
         exact hall.symm)
      | exact (all_not (i := i) (by omega) (by assumption)).symm
def methodOk (s : List UInt8) : Bool := decide (s ≠ []) && decide (s.length ≤ 16) && s.all great
def prefixed (s p : List UInt8) : Bool := decide (s.take p.length = p)
def pathOk (s : List UInt8) : Bool := (prefixed s [47] || decide (s = [42])) && s.all graph
theorem method_wf (s : List UInt8) (hs : s.length ≤ 16777216) (σ : LZ.H) : WF Tryd.prog ext 67 [.str s] σ (fun v σ' => v = .bool (methodOk s) ∧ σ' = σ) := by
  refine WF.body rfl Tryd.func67 rfl rfl ?_
  refine WC.seq ?_
  refine WC.region ?_
  refine WO.run 1 rfl ?_
  refine WO.nil ?_
  show WC _ _ _ _ _ _
  refine WC.seq ?_
  refine WC.region ?_
  refine WO.run 2 rfl ?_
  refine WO2.both rfl rfl (fun h5 => ?_) (fun h5 => ?_)
  · refine ⟨_, rfl, ?_⟩
    replace h5 := show _ ≠ ([] : List UInt8) from bne_iff_ne.1 h5
    refine WO.run 4 rfl ?_
    refine WO2.both rfl rfl (fun h10 => ?_) (fun h10 => ?_)
    · refine ⟨_, rfl, ?_⟩
      replace h10 := of_decide_eq_true h10
      refine WO.run 1 rfl ?_
      refine WO2.call rfl rfl rfl rfl rfl ?_
      refine WF.mono (all_wf great 90 great_wf s hs _) ?_
      rintro _ _ ⟨rfl, rfl⟩
      refine ⟨_, rfl, ?_⟩
      refine WO.run 2 rfl ?_
      refine WO.nil ?_
      show WC _ _ _ _ _ _
      refine WC.ret ?_
      refine ⟨_, (res_tmp rfl res_nil), ?_⟩
      refine ⟨?_, rfl⟩
      simp only [outL, LV.bool.injEq, methodOk]
      all_goals (rw [Bool.eq_iff_iff]; simp_all <;> omega)
    · refine ⟨_, rfl, ?_⟩
      replace h10 := of_decide_eq_false h10
      refine WO.run 4 rfl ?_
      refine WO.nil ?_
      show WC _ _ _ _ _ _
      refine WC.ret ?_
      refine ⟨_, (res_tmp rfl res_nil), ?_⟩
      refine ⟨?_, rfl⟩
      simp only [outL, LV.bool.injEq, methodOk]
      all_goals (rw [Bool.eq_iff_iff]; simp_all <;> omega)
  · refine ⟨_, rfl, ?_⟩
    replace h5 := show _ = ([] : List UInt8) from eq_of_bne_false h5
    refine WO.run 9 rfl ?_
    refine WO.nil ?_
    show WC _ _ _ _ _ _
    refine WC.ret ?_
    refine ⟨_, (res_tmp rfl res_nil), ?_⟩
    refine ⟨?_, rfl⟩
    simp only [outL, LV.bool.injEq, methodOk]
    all_goals (rw [Bool.eq_iff_iff]; simp_all <;> omega)
theorem hasPrefix0_wf (s p : List UInt8) (σ : LZ.H) : WF Tryd.prog ext 89 [.str s, .str p] σ (fun v σ' => v = .bool (prefixed s p) ∧ σ' = σ) := by
  refine WF.body rfl Tryd.func89 rfl rfl ?_
  refine WC.seq ?_
  refine WC.region ?_
  refine WO.run 1 rfl ?_
  refine WO.nil ?_
  show WC _ _ _ _ _ _
  refine WC.seq ?_
  refine WC.region ?_
  refine WO.run 5 rfl ?_
  refine WO2.both rfl rfl (fun h10 => ?_) (fun h10 => ?_)
  · refine ⟨_, rfl, ?_⟩
    replace h10 := of_decide_eq_true h10
    refine WO.run 3 rfl ?_
    refine WO2.op rfl (Ob.strHi rfl rfl rfl rfl (by omega)) rfl ?_
    refine WO.run 4 rfl ?_
    refine WO.nil ?_
    show WC _ _ _ _ _ _
    refine WC.ret ?_
    refine ⟨_, (res_tmp rfl res_nil), ?_⟩
    refine ⟨?_, rfl⟩
    simp only [outL, LV.bool.injEq, prefixed]
    all_goals (rw [Bool.eq_iff_iff]; simp_all)
    all_goals (intro q; have := congrArg List.length q; simp at this; omega)
  · refine ⟨_, rfl, ?_⟩
    replace h10 := of_decide_eq_false h10
    refine WO.run 8 rfl ?_
    refine WO.nil ?_
    show WC _ _ _ _ _ _
    refine WC.ret ?_
    refine ⟨_, (res_tmp rfl res_nil), ?_⟩
    refine ⟨?_, rfl⟩
    simp only [outL, LV.bool.injEq, prefixed]
    all_goals (rw [Bool.eq_iff_iff]; simp_all)
    all_goals (intro q; have := congrArg List.length q; simp at this; omega)
theorem hasPrefix_wf (s p : List UInt8) (σ : LZ.H) : WF Tryd.prog ext 62 [.str s, .str p] σ (fun v σ' => v = .bool (prefixed s p) ∧ σ' = σ) := by
  refine WF.body rfl Tryd.func62 rfl rfl ?_
  refine WC.seq ?_
  refine WC.region ?_
  refine WO.run 1 rfl ?_
  refine WO.nil ?_
  show WC _ _ _ _ _ _
  refine WC.seq ?_
  refine WC.region ?_
  refine WO.run 2 rfl ?_
  refine WO2.call rfl rfl rfl rfl rfl ?_
  refine WF.mono (hasPrefix0_wf s p _) ?_
  rintro _ _ ⟨rfl, rfl⟩
  refine ⟨_, rfl, ?_⟩
  refine WO.run 1 rfl ?_
  refine WO.nil ?_
  show WC _ _ _ _ _ _
  refine WC.ret ?_
  refine ⟨_, (res_tmp rfl res_nil), ?_⟩
  exact ⟨rfl, rfl⟩
theorem path_wf (s : List UInt8) (hs : s.length ≤ 16777216) (σ : LZ.H) : WF Tryd.prog ext 68 [.str s] σ (fun v σ' => v = .bool (pathOk s) ∧ σ' = σ) := by
  refine WF.body rfl Tryd.func68 rfl rfl ?_
  refine WC.seq ?_
  refine WC.region ?_
  refine WO.run 1 rfl ?_
  refine WO.nil ?_
  show WC _ _ _ _ _ _
  refine WC.seq ?_
  refine WC.region ?_
  refine WO.run 1 rfl ?_
  refine WO2.call rfl rfl rfl rfl rfl ?_
  refine WF.mono (hasPrefix_wf s [47] _) ?_
  rintro _ _ ⟨rfl, rfl⟩
  refine ⟨_, rfl, ?_⟩
  refine WO2.both rfl rfl (fun h5 => ?_) (fun h5 => ?_)
  · refine ⟨_, rfl, ?_⟩
    refine WO.run 5 rfl ?_
    refine WO2.call rfl rfl rfl rfl rfl ?_
    refine WF.mono (all_wf graph 66 graph_wf s hs _) ?_
    rintro _ _ ⟨rfl, rfl⟩
    refine ⟨_, rfl, ?_⟩
    refine WO.run 2 rfl ?_
    refine WO.nil ?_
    show WC _ _ _ _ _ _
    refine WC.ret ?_
    refine ⟨_, (res_tmp rfl res_nil), ?_⟩
    refine ⟨?_, rfl⟩
    simp only [outL, LV.bool.injEq, pathOk]
    all_goals (rw [Bool.eq_iff_iff]; simp_all)
  · refine ⟨_, rfl, ?_⟩
    refine WO.run 3 rfl ?_
    refine WO2.both rfl rfl (fun h9 => ?_) (fun h9 => ?_)
    · refine ⟨_, rfl, ?_⟩
      replace h9 := show _ = ([42] : List UInt8) from eq_of_beq h9
      refine WO.run 1 rfl ?_
      refine WO2.call rfl rfl rfl rfl rfl ?_
      refine WF.mono (all_wf graph 66 graph_wf s hs _) ?_
      rintro _ _ ⟨rfl, rfl⟩
      refine ⟨_, rfl, ?_⟩
      refine WO.run 2 rfl ?_
      refine WO.nil ?_
      show WC _ _ _ _ _ _
      refine WC.ret ?_
      refine ⟨_, (res_tmp rfl res_nil), ?_⟩
      refine ⟨?_, rfl⟩
      simp only [outL, LV.bool.injEq, pathOk]
      all_goals (rw [Bool.eq_iff_iff]; simp_all)
    · refine ⟨_, rfl, ?_⟩
      replace h9 := show _ ≠ ([42] : List UInt8) from ne_of_beq_false h9
      refine WO.run 4 rfl ?_
      refine WO.nil ?_
      show WC _ _ _ _ _ _
      refine WC.ret ?_
      refine ⟨_, (res_tmp rfl res_nil), ?_⟩
      refine ⟨?_, rfl⟩
      simp only [outL, LV.bool.injEq, pathOk]
      all_goals (rw [Bool.eq_iff_iff]; simp_all)
def isHost : List UInt8 := [104, 111, 115, 116]
def isSettings : List UInt8 := [104, 116, 116, 112, 50, 45, 115, 101, 116, 116, 105, 110, 103, 115]
def isLength : List UInt8 := [99, 111, 110, 116, 101, 110, 116, 45, 108, 101, 110, 103, 116, 104]
def ownLine (s : List UInt8) : Bool := decide (s = isHost) || decide (s = isSettings) || decide (s = isLength)
theorem own_wf (s : List UInt8) (σ : LZ.H) : WF Tryd.prog ext 63 [.str s] σ (fun v σ' => v = .bool (ownLine s) ∧ σ' = σ) := by
  refine WF.body rfl Tryd.func63 rfl rfl ?_
  refine WC.seq ?_
  refine WC.region ?_
  refine WO.run 1 rfl ?_
  refine WO.nil ?_
  show WC _ _ _ _ _ _
  refine WC.seq ?_
  refine WC.region ?_
  refine WO.run 2 rfl ?_
  refine WO2.both rfl rfl (fun h5 => ?_) (fun h5 => ?_)
  · refine ⟨_, rfl, ?_⟩
    replace h5 := show _ = ([104, 111, 115, 116] : List UInt8) from eq_of_beq h5
    refine WO.run 8 rfl ?_
    refine WO.nil ?_
    show WC _ _ _ _ _ _
    refine WC.ret ?_
    refine ⟨_, (res_tmp rfl res_nil), ?_⟩
    refine ⟨?_, rfl⟩
    simp only [outL, LV.bool.injEq, ownLine, isHost, isSettings, isLength] at *
    all_goals (rw [Bool.eq_iff_iff]; simp_all)
    all_goals exact decide_eq_true_iff.symm
  · refine ⟨_, rfl, ?_⟩
    replace h5 := show _ ≠ ([104, 111, 115, 116] : List UInt8) from ne_of_beq_false h5
    refine WO.run 3 rfl ?_
    refine WO2.both rfl rfl (fun h9 => ?_) (fun h9 => ?_)
    · refine ⟨_, rfl, ?_⟩
      replace h9 := show _ = ([104, 116, 116, 112, 50, 45, 115, 101, 116, 116, 105, 110, 103, 115] : List UInt8) from eq_of_beq h9
      refine WO.run 4 rfl ?_
      refine WO.nil ?_
      show WC _ _ _ _ _ _
      refine WC.ret ?_
      refine ⟨_, (res_tmp rfl res_nil), ?_⟩
      refine ⟨?_, rfl⟩
      simp only [outL, LV.bool.injEq, ownLine, isHost, isSettings, isLength] at *
      all_goals (rw [Bool.eq_iff_iff]; simp_all)
      all_goals exact decide_eq_true_iff.symm
    · refine ⟨_, rfl, ?_⟩
      replace h9 := show _ ≠ ([104, 116, 116, 112, 50, 45, 115, 101, 116, 116, 105, 110, 103, 115] : List UInt8) from ne_of_beq_false h9
      refine WO.run 4 rfl ?_
      refine WO.nil ?_
      show WC _ _ _ _ _ _
      refine WC.ret ?_
      refine ⟨_, (res_tmp rfl res_nil), ?_⟩
      refine ⟨?_, rfl⟩
      simp only [outL, LV.bool.injEq, ownLine, isHost, isSettings, isLength] at *
      all_goals (rw [Bool.eq_iff_iff]; simp_all)
      all_goals exact decide_eq_true_iff.symm
end Go.Proofs.YtamplhegepgaeaaDoor
end
section
/- Walks of this layer's functions on the logical memory, part 2: fields. -/
open Go Go.LZ
namespace Go.Proofs.YtamplhegepgaeaaDoor
set_option maxRecDepth 10000
set_option linter.unusedSimpArgs false
set_option linter.unusedVariables false
def barredL : List (List UInt8) := [[99, 111, 110, 110, 101, 99, 116, 105, 111, 110], [107, 101, 101, 112, 45, 97, 108, 105, 118, 101], [112, 114, 111, 120, 121, 45, 99, 111, 110, 110, 101, 99, 116, 105, 111, 110], [116, 114, 97, 110, 115, 102, 101, 114, 45, 101, 110, 99, 111, 100, 105, 110, 103], [117, 112, 103, 114, 97, 100, 101]]
def barred (s : List UInt8) : Bool := decide (s ∈ barredL)
theorem barred_wf (s : List UInt8) (σ : LZ.H) : WF Tryd.prog ext 88 [.str s] σ (fun v σ' => v = .bool (barred s) ∧ σ' = σ) := by
  refine WF.body rfl Tryd.func88 rfl rfl ?_
  refine WC.seq ?_
  refine WC.region ?_
  refine WO.run 1 rfl ?_
  refine WO.nil ?_
  show WC _ _ _ _ _ _
  refine WC.seq ?_
  refine WC.seq ?_
  refine WC.region ?_
  refine WO.run 1 rfl ?_
  refine WO.nil ?_
  show WC _ _ _ _ _ _
  refine WC.block ?_
  refine WC.seq ?_
  refine WC.seq ?_
  refine WC.region ?_
  refine WO.run 2 rfl ?_
  refine WO.nil ?_
  show WC _ _ _ _ _ _
  refine WC.cond rfl (fun c4 => ?_) (fun c4 => ?_)
  · replace c4 := show _ = ([99, 111, 110, 110, 101, 99, 116, 105, 111, 110] : List UInt8) from eq_of_beq c4
    refine WC.skip ?_
    show WC _ _ _ _ _ _
    refine WC.cond rfl (fun _ => ?_) (fun hc => ?_)
    rotate_left
    · first | exact absurd hc (by decide) | (exfalso; simp_all; done)
    refine WC.seq ?_
    refine WC.region ?_
    refine WO.run 1 rfl ?_
    refine WO.nil ?_
    show WC _ _ _ _ _ _
    refine WC.ret ?_
    refine ⟨_, (res_tmp rfl res_nil), ?_⟩
    refine ⟨?_, rfl⟩
    simp only [outL, LV.bool.injEq, barred, barredL] at *
    all_goals simp_all
  · replace c4 := show _ ≠ ([99, 111, 110, 110, 101, 99, 116, 105, 111, 110] : List UInt8) from ne_of_beq_false c4
    refine WC.seq ?_
    refine WC.region ?_
    refine WO.run 2 rfl ?_
    refine WO.nil ?_
    show WC _ _ _ _ _ _
    refine WC.cond rfl (fun c4 => ?_) (fun c4 => ?_)
    · replace c4 := show _ = ([107, 101, 101, 112, 45, 97, 108, 105, 118, 101] : List UInt8) from eq_of_beq c4
      refine WC.skip ?_
      show WC _ _ _ _ _ _
      refine WC.cond rfl (fun _ => ?_) (fun hc => ?_)
      rotate_left
      · first | exact absurd hc (by decide) | (exfalso; simp_all; done)
      refine WC.seq ?_
      refine WC.region ?_
      refine WO.run 1 rfl ?_
      refine WO.nil ?_
      show WC _ _ _ _ _ _
      refine WC.ret ?_
      refine ⟨_, (res_tmp rfl res_nil), ?_⟩
      refine ⟨?_, rfl⟩
      simp only [outL, LV.bool.injEq, barred, barredL] at *
      all_goals simp_all
    · replace c4 := show _ ≠ ([107, 101, 101, 112, 45, 97, 108, 105, 118, 101] : List UInt8) from ne_of_beq_false c4
      refine WC.seq ?_
      refine WC.region ?_
      refine WO.run 2 rfl ?_
      refine WO.nil ?_
      show WC _ _ _ _ _ _
      refine WC.cond rfl (fun c4 => ?_) (fun c4 => ?_)
      · replace c4 := show _ = ([112, 114, 111, 120, 121, 45, 99, 111, 110, 110, 101, 99, 116, 105, 111, 110] : List UInt8) from eq_of_beq c4
        refine WC.skip ?_
        show WC _ _ _ _ _ _
        refine WC.cond rfl (fun _ => ?_) (fun hc => ?_)
        rotate_left
        · first | exact absurd hc (by decide) | (exfalso; simp_all; done)
        refine WC.seq ?_
        refine WC.region ?_
        refine WO.run 1 rfl ?_
        refine WO.nil ?_
        show WC _ _ _ _ _ _
        refine WC.ret ?_
        refine ⟨_, (res_tmp rfl res_nil), ?_⟩
        refine ⟨?_, rfl⟩
        simp only [outL, LV.bool.injEq, barred, barredL] at *
        all_goals simp_all
      · replace c4 := show _ ≠ ([112, 114, 111, 120, 121, 45, 99, 111, 110, 110, 101, 99, 116, 105, 111, 110] : List UInt8) from ne_of_beq_false c4
        refine WC.seq ?_
        refine WC.region ?_
        refine WO.run 2 rfl ?_
        refine WO.nil ?_
        show WC _ _ _ _ _ _
        refine WC.cond rfl (fun c4 => ?_) (fun c4 => ?_)
        · replace c4 := show _ = ([116, 114, 97, 110, 115, 102, 101, 114, 45, 101, 110, 99, 111, 100, 105, 110, 103] : List UInt8) from eq_of_beq c4
          refine WC.skip ?_
          show WC _ _ _ _ _ _
          refine WC.cond rfl (fun _ => ?_) (fun hc => ?_)
          rotate_left
          · first | exact absurd hc (by decide) | (exfalso; simp_all; done)
          refine WC.seq ?_
          refine WC.region ?_
          refine WO.run 1 rfl ?_
          refine WO.nil ?_
          show WC _ _ _ _ _ _
          refine WC.ret ?_
          refine ⟨_, (res_tmp rfl res_nil), ?_⟩
          refine ⟨?_, rfl⟩
          simp only [outL, LV.bool.injEq, barred, barredL] at *
          all_goals simp_all
        · replace c4 := show _ ≠ ([116, 114, 97, 110, 115, 102, 101, 114, 45, 101, 110, 99, 111, 100, 105, 110, 103] : List UInt8) from ne_of_beq_false c4
          refine WC.region ?_
          refine WO.run 2 rfl ?_
          refine WO.nil ?_
          show WC _ _ _ _ _ _
          refine WC.cond rfl (fun c4 => ?_) (fun c4 => ?_)
          · replace c4 := show _ = ([117, 112, 103, 114, 97, 100, 101] : List UInt8) from eq_of_beq c4
            refine WC.seq ?_
            refine WC.region ?_
            refine WO.run 1 rfl ?_
            refine WO.nil ?_
            show WC _ _ _ _ _ _
            refine WC.ret ?_
            refine ⟨_, (res_tmp rfl res_nil), ?_⟩
            refine ⟨?_, rfl⟩
            simp only [outL, LV.bool.injEq, barred, barredL] at *
            all_goals simp_all
          · replace c4 := show _ ≠ ([117, 112, 103, 114, 97, 100, 101] : List UInt8) from ne_of_beq_false c4
            refine WC.skip ?_
            show WC _ _ _ _ _ _
            refine WC.seq ?_
            refine WC.region ?_
            refine WO.run 1 rfl ?_
            refine WO.nil ?_
            show WC _ _ _ _ _ _
            refine WC.ret ?_
            refine ⟨_, (res_tmp rfl res_nil), ?_⟩
            refine ⟨?_, rfl⟩
            simp only [outL, LV.bool.injEq, barred, barredL] at *
            all_goals simp_all
def marks : List UInt8 := [33, 35, 36, 37, 38, 39, 42, 43, 45, 46, 94, 95, 96, 124, 126]
def nameByte (c : UInt8) : Bool := (decide (97 ≤ c.toNat) && decide (c.toNat ≤ 122)) || (decide (48 ≤ c.toNat) && decide (c.toNat ≤ 57)) || decide (0 ≤ Lib.indexByte marks c)
def nameOk (s : List UInt8) : Bool := decide (s ≠ []) && decide (s.length ≤ 65536) && s.all nameByte
theorem name_wf (s : List UInt8) (hs : s.length ≤ 16777216) (σ : LZ.H) : WF Tryd.prog ext 76 [.str s] σ (fun v σ' => v = .bool (nameOk s) ∧ σ' = σ) := by
  refine WF.body rfl Tryd.func76 rfl rfl ?_
  refine WC.seq ?_
  refine WC.region ?_
  refine WO.run 1 rfl ?_
  refine WO.nil ?_
  show WC _ _ _ _ _ _
  refine WC.seq ?_
  refine WC.seq ?_
  refine WC.region ?_
  refine WO.run 2 rfl ?_
  refine WO2.both rfl rfl (fun h7 => ?_) (fun h7 => ?_)
  · refine ⟨_, rfl, ?_⟩
    replace h7 := show _ = ([] : List UInt8) from eq_of_beq h7
    refine WO.run 4 rfl ?_
    refine WO.nil ?_
    show WC _ _ _ _ _ _
    refine WC.cond rfl (fun _ => ?_) (fun hc => ?_)
    rotate_left
    · first | exact absurd hc (by decide) | (exfalso; simp_all; done)
    refine WC.seq ?_
    refine WC.region ?_
    refine WO.run 1 rfl ?_
    refine WO.nil ?_
    show WC _ _ _ _ _ _
    refine WC.ret ?_
    refine ⟨_, (res_tmp rfl res_nil), ?_⟩
    refine ⟨?_, rfl⟩
    simp only [outL, LV.bool.injEq, nameOk]
    first
      | (simp [h7]; done)
      | (have h6 : ¬ s.length ≤ 65536 := by omega
         simp [h6]; done)
      | (rw [all_not (i := i) (p := nameByte) (by omega) (by simp only [nameByte, Bool.or_eq_false_iff, Bool.and_eq_false_iff, decide_eq_false_iff_not]; omega)]; simp; done)
      | (have h6 : s.length ≤ 65536 := by omega
         have hi' : i = s.length := by omega
         subst hi'
         rw [List.take_length] at hall
         simp [hall, h7, h6]; done)
  · refine ⟨_, rfl, ?_⟩
    replace h7 := show _ ≠ ([] : List UInt8) from ne_of_beq_false h7
    refine WO.run 4 rfl ?_
    refine WO.nil ?_
    show WC _ _ _ _ _ _
    refine WC.cond rfl (fun c11 => ?_) (fun c11 => ?_)
    · replace c11 := of_decide_eq_true c11
      refine WC.seq ?_
      refine WC.region ?_
      refine WO.run 1 rfl ?_
      refine WO.nil ?_
      show WC _ _ _ _ _ _
      refine WC.ret ?_
      refine ⟨_, (res_tmp rfl res_nil), ?_⟩
      refine ⟨?_, rfl⟩
      simp only [outL, LV.bool.injEq, nameOk]
      first
        | (simp [h7]; done)
        | (have h6 : ¬ s.length ≤ 65536 := by omega
           simp [h6]; done)
        | (rw [all_not (i := i) (p := nameByte) (by omega) (by simp only [nameByte, Bool.or_eq_false_iff, Bool.and_eq_false_iff, decide_eq_false_iff_not]; omega)]; simp; done)
        | (have h6 : s.length ≤ 65536 := by omega
           have hi' : i = s.length := by omega
           subst hi'
           rw [List.take_length] at hall
           simp [hall, h7, h6]; done)
    · replace c11 := of_decide_eq_false c11
      refine WC.skip ?_
      show WC _ _ _ _ _ _
      refine WC.seq ?_
      refine WC.seq ?_
      refine WC.region ?_
      refine WO.run 3 rfl ?_
      refine WO.nil ?_
      show WC _ _ _ _ _ _
      refine WC.block ?_
      refine WC.lp1 (fun (i : Nat) => [(14, .int .i64 (i : Int))]) [2, 3, 4, 15, 16, 17, 18, 19, 20, 21, 22, 23, 24, 25, 26, 27, 28, 29, 30, 31, 32, 33, 34, 35, 36, 37, 38, 39, 40] (fun (i : Nat) => fun τ => τ = σ ∧ i ≤ s.length ∧ (s.take i).all nameByte = true) (fun (i : Nat) => s.length - i) (0) (fun _ _ => rfl) rfl ⟨rfl, by omega, rfl⟩ ?_
      rintro i g τ ⟨rfl, hi, hall⟩
      refine WC.seq ?_
      refine WC.region ?_
      refine WO.run 1 rfl ?_
      refine WO.nil ?_
      show WC _ _ _ _ _ _
      refine WC.seq ?_
      refine WC.cond rfl (fun c15 => ?_) (fun c15 => ?_)
      · replace c15 := of_decide_eq_true c15
        refine WC.skip ?_
        show WC _ _ _ _ _ _
        refine WC.seq ?_
        refine WC.block ?_
        refine WC.seq ?_
        refine WC.region ?_
        refine WO.run 2 rfl ?_
        refine WO.nil ?_
        show WC _ _ _ _ _ _
        refine WC.seq ?_
        refine WC.region ?_
        refine WO.run 2 rfl ?_
        first
          | refine WO3.indexStr rfl rfl rfl rfl rfl (by omega) rfl ?_
          | refine WO2.indexStr rfl rfl rfl rfl rfl (by omega) rfl ?_
        refine WO.run 1 rfl ?_
        refine WO.nil ?_
        show WC _ _ _ _ _ _
        refine WC.seq ?_
        refine WC.region ?_
        refine WO.run 2 rfl ?_
        refine WO2.both rfl rfl (fun h22 => ?_) (fun h22 => ?_)
        · refine ⟨_, rfl, ?_⟩
          replace h22 := of_decide_eq_true h22
          refine WO.run 3 rfl ?_
          refine WO2.both rfl rfl (fun h26 => ?_) (fun h26 => ?_)
          · refine ⟨_, rfl, ?_⟩
            replace h26 := of_decide_eq_true h26
            refine WO.run 13 rfl ?_
            refine WO.nil ?_
            show WC _ _ _ _ _ _
            refine WC.cond rfl (fun hc => ?_) (fun _ => ?_)
            · first | exact absurd hc (by decide) | (exfalso; simp_all; done)
            refine WC.skip ?_
            show WC _ _ _ _ _ _
            refine WC.region ?_
            refine WO2.val (v' := .int .i64 ((i + 1 : Nat) : Int)) rfl rfl (iv_wrap (by omega) (by omega)) rfl ?_
            refine WO.run 1 rfl ?_
            refine WO.nil ?_
            refine ⟨i + 1, rfl, ⟨rfl, by omega, all_take (by omega) hall ?_⟩, by omega⟩
            simp only [nameByte, Bool.or_eq_true, Bool.and_eq_true, decide_eq_true_eq]
            omega
          · refine ⟨_, rfl, ?_⟩
            replace h26 := of_decide_eq_false h26
            refine WO.run 2 rfl ?_
            refine WO2.both rfl rfl (fun h29 => ?_) (fun h29 => ?_)
            · refine ⟨_, rfl, ?_⟩
              replace h29 := of_decide_eq_true h29
              refine WO.run 4 rfl ?_
              refine WO2.both rfl rfl (fun h34 => ?_) (fun h34 => ?_)
              · refine ⟨_, rfl, ?_⟩
                replace h34 := of_decide_eq_true h34
                refine WO.run 5 rfl ?_
                refine WO.nil ?_
                show WC _ _ _ _ _ _
                refine WC.cond rfl (fun hc => ?_) (fun _ => ?_)
                · first | exact absurd hc (by decide) | (exfalso; simp_all; done)
                refine WC.skip ?_
                show WC _ _ _ _ _ _
                refine WC.region ?_
                refine WO2.val (v' := .int .i64 ((i + 1 : Nat) : Int)) rfl rfl (iv_wrap (by omega) (by omega)) rfl ?_
                refine WO.run 1 rfl ?_
                refine WO.nil ?_
                refine ⟨i + 1, rfl, ⟨rfl, by omega, all_take (by omega) hall ?_⟩, by omega⟩
                simp only [nameByte, Bool.or_eq_true, Bool.and_eq_true, decide_eq_true_eq]
                omega
              · refine ⟨_, rfl, ?_⟩
                replace h34 := of_decide_eq_false h34
                refine WO.run 1 rfl ?_
                refine WO2.call rfl rfl rfl rfl rfl ?_
                refine WF.mono (indexByte_wf marks _ _) ?_
                rintro _ _ ⟨rfl, rfl⟩
                refine ⟨_, rfl, ?_⟩
                refine WO.run 3 rfl ?_
                refine WO.nil ?_
                show WC _ _ _ _ _ _
                refine WC.cond rfl (fun c39 => ?_) (fun c39 => ?_)
                · replace c39 := not_true_eq c39; replace c39 := of_decide_eq_false c39
                  refine WC.seq ?_
                  refine WC.region ?_
                  refine WO.run 1 rfl ?_
                  refine WO.nil ?_
                  show WC _ _ _ _ _ _
                  refine WC.ret ?_
                  refine ⟨_, (res_tmp rfl res_nil), ?_⟩
                  refine ⟨?_, rfl⟩
                  simp only [outL, LV.bool.injEq, nameOk]
                  first
                    | (simp [h7]; done)
                    | (have h6 : ¬ s.length ≤ 65536 := by omega
                       simp [h6]; done)
                    | (rw [all_not (i := i) (p := nameByte) (by omega) (by simp only [nameByte, Bool.or_eq_false_iff, Bool.and_eq_false_iff, decide_eq_false_iff_not]; omega)]; simp; done)
                    | (have h6 : s.length ≤ 65536 := by omega
                       have hi' : i = s.length := by omega
                       subst hi'
                       rw [List.take_length] at hall
                       simp [hall, h7, h6]; done)
                · replace c39 := not_false_eq c39; replace c39 := of_decide_eq_true c39
                  refine WC.skip ?_
                  show WC _ _ _ _ _ _
                  refine WC.region ?_
                  refine WO2.val (v' := .int .i64 ((i + 1 : Nat) : Int)) rfl rfl (iv_wrap (by omega) (by omega)) rfl ?_
                  refine WO.run 1 rfl ?_
                  refine WO.nil ?_
                  refine ⟨i + 1, rfl, ⟨rfl, by omega, all_take (by omega) hall ?_⟩, by omega⟩
                  simp only [nameByte, Bool.or_eq_true, Bool.and_eq_true, decide_eq_true_eq]
                  omega
            · refine ⟨_, rfl, ?_⟩
              replace h29 := of_decide_eq_false h29
              refine WO.run 6 rfl ?_
              refine WO2.call rfl rfl rfl rfl rfl ?_
              refine WF.mono (indexByte_wf marks _ _) ?_
              rintro _ _ ⟨rfl, rfl⟩
              refine ⟨_, rfl, ?_⟩
              refine WO.run 3 rfl ?_
              refine WO.nil ?_
              show WC _ _ _ _ _ _
              refine WC.cond rfl (fun c39 => ?_) (fun c39 => ?_)
              · replace c39 := not_true_eq c39; replace c39 := of_decide_eq_false c39
                refine WC.seq ?_
                refine WC.region ?_
                refine WO.run 1 rfl ?_
                refine WO.nil ?_
                show WC _ _ _ _ _ _
                refine WC.ret ?_
                refine ⟨_, (res_tmp rfl res_nil), ?_⟩
                refine ⟨?_, rfl⟩
                simp only [outL, LV.bool.injEq, nameOk]
                first
                  | (simp [h7]; done)
                  | (have h6 : ¬ s.length ≤ 65536 := by omega
                     simp [h6]; done)
                  | (rw [all_not (i := i) (p := nameByte) (by omega) (by simp only [nameByte, Bool.or_eq_false_iff, Bool.and_eq_false_iff, decide_eq_false_iff_not]; omega)]; simp; done)
                  | (have h6 : s.length ≤ 65536 := by omega
                     have hi' : i = s.length := by omega
                     subst hi'
                     rw [List.take_length] at hall
                     simp [hall, h7, h6]; done)
              · replace c39 := not_false_eq c39; replace c39 := of_decide_eq_true c39
                refine WC.skip ?_
                show WC _ _ _ _ _ _
                refine WC.region ?_
                refine WO2.val (v' := .int .i64 ((i + 1 : Nat) : Int)) rfl rfl (iv_wrap (by omega) (by omega)) rfl ?_
                refine WO.run 1 rfl ?_
                refine WO.nil ?_
                refine ⟨i + 1, rfl, ⟨rfl, by omega, all_take (by omega) hall ?_⟩, by omega⟩
                simp only [nameByte, Bool.or_eq_true, Bool.and_eq_true, decide_eq_true_eq]
                omega
        · refine ⟨_, rfl, ?_⟩
          replace h22 := of_decide_eq_false h22
          refine WO.run 6 rfl ?_
          refine WO2.both rfl rfl (fun h29 => ?_) (fun h29 => ?_)
          · refine ⟨_, rfl, ?_⟩
            replace h29 := of_decide_eq_true h29
            refine WO.run 4 rfl ?_
            refine WO2.both rfl rfl (fun h34 => ?_) (fun h34 => ?_)
            · refine ⟨_, rfl, ?_⟩
              replace h34 := of_decide_eq_true h34
              refine WO.run 5 rfl ?_
              refine WO.nil ?_
              show WC _ _ _ _ _ _
              refine WC.cond rfl (fun hc => ?_) (fun _ => ?_)
              · first | exact absurd hc (by decide) | (exfalso; simp_all; done)
              refine WC.skip ?_
              show WC _ _ _ _ _ _
              refine WC.region ?_
              refine WO2.val (v' := .int .i64 ((i + 1 : Nat) : Int)) rfl rfl (iv_wrap (by omega) (by omega)) rfl ?_
              refine WO.run 1 rfl ?_
              refine WO.nil ?_
              refine ⟨i + 1, rfl, ⟨rfl, by omega, all_take (by omega) hall ?_⟩, by omega⟩
              simp only [nameByte, Bool.or_eq_true, Bool.and_eq_true, decide_eq_true_eq]
              omega
            · refine ⟨_, rfl, ?_⟩
              replace h34 := of_decide_eq_false h34
              refine WO.run 1 rfl ?_
              refine WO2.call rfl rfl rfl rfl rfl ?_
              refine WF.mono (indexByte_wf marks _ _) ?_
              rintro _ _ ⟨rfl, rfl⟩
              refine ⟨_, rfl, ?_⟩
              refine WO.run 3 rfl ?_
              refine WO.nil ?_
              show WC _ _ _ _ _ _
              refine WC.cond rfl (fun c39 => ?_) (fun c39 => ?_)
              · replace c39 := not_true_eq c39; replace c39 := of_decide_eq_false c39
                refine WC.seq ?_
                refine WC.region ?_
                refine WO.run 1 rfl ?_
                refine WO.nil ?_
                show WC _ _ _ _ _ _
                refine WC.ret ?_
                refine ⟨_, (res_tmp rfl res_nil), ?_⟩
                refine ⟨?_, rfl⟩
                simp only [outL, LV.bool.injEq, nameOk]
                first
                  | (simp [h7]; done)
                  | (have h6 : ¬ s.length ≤ 65536 := by omega
                     simp [h6]; done)
                  | (rw [all_not (i := i) (p := nameByte) (by omega) (by simp only [nameByte, Bool.or_eq_false_iff, Bool.and_eq_false_iff, decide_eq_false_iff_not]; omega)]; simp; done)
                  | (have h6 : s.length ≤ 65536 := by omega
                     have hi' : i = s.length := by omega
                     subst hi'
                     rw [List.take_length] at hall
                     simp [hall, h7, h6]; done)
              · replace c39 := not_false_eq c39; replace c39 := of_decide_eq_true c39
                refine WC.skip ?_
                show WC _ _ _ _ _ _
                refine WC.region ?_
                refine WO2.val (v' := .int .i64 ((i + 1 : Nat) : Int)) rfl rfl (iv_wrap (by omega) (by omega)) rfl ?_
                refine WO.run 1 rfl ?_
                refine WO.nil ?_
                refine ⟨i + 1, rfl, ⟨rfl, by omega, all_take (by omega) hall ?_⟩, by omega⟩
                simp only [nameByte, Bool.or_eq_true, Bool.and_eq_true, decide_eq_true_eq]
                omega
          · refine ⟨_, rfl, ?_⟩
            replace h29 := of_decide_eq_false h29
            refine WO.run 6 rfl ?_
            refine WO2.call rfl rfl rfl rfl rfl ?_
            refine WF.mono (indexByte_wf marks _ _) ?_
            rintro _ _ ⟨rfl, rfl⟩
            refine ⟨_, rfl, ?_⟩
            refine WO.run 3 rfl ?_
            refine WO.nil ?_
            show WC _ _ _ _ _ _
            refine WC.cond rfl (fun c39 => ?_) (fun c39 => ?_)
            · replace c39 := not_true_eq c39; replace c39 := of_decide_eq_false c39
              refine WC.seq ?_
              refine WC.region ?_
              refine WO.run 1 rfl ?_
              refine WO.nil ?_
              show WC _ _ _ _ _ _
              refine WC.ret ?_
              refine ⟨_, (res_tmp rfl res_nil), ?_⟩
              refine ⟨?_, rfl⟩
              simp only [outL, LV.bool.injEq, nameOk]
              first
                | (simp [h7]; done)
                | (have h6 : ¬ s.length ≤ 65536 := by omega
                   simp [h6]; done)
                | (rw [all_not (i := i) (p := nameByte) (by omega) (by simp only [nameByte, Bool.or_eq_false_iff, Bool.and_eq_false_iff, decide_eq_false_iff_not]; omega)]; simp; done)
                | (have h6 : s.length ≤ 65536 := by omega
                   have hi' : i = s.length := by omega
                   subst hi'
                   rw [List.take_length] at hall
                   simp [hall, h7, h6]; done)
            · replace c39 := not_false_eq c39; replace c39 := of_decide_eq_true c39
              refine WC.skip ?_
              show WC _ _ _ _ _ _
              refine WC.region ?_
              refine WO2.val (v' := .int .i64 ((i + 1 : Nat) : Int)) rfl rfl (iv_wrap (by omega) (by omega)) rfl ?_
              refine WO.run 1 rfl ?_
              refine WO.nil ?_
              refine ⟨i + 1, rfl, ⟨rfl, by omega, all_take (by omega) hall ?_⟩, by omega⟩
              simp only [nameByte, Bool.or_eq_true, Bool.and_eq_true, decide_eq_true_eq]
              omega
      · replace c15 := of_decide_eq_false c15
        refine WC.exit ?_
        show WC _ _ _ _ _ _
        refine WC.seq ?_
        refine WC.region ?_
        refine WO.run 1 rfl ?_
        refine WO.nil ?_
        show WC _ _ _ _ _ _
        refine WC.ret ?_
        refine ⟨_, (res_tmp rfl res_nil), ?_⟩
        refine ⟨?_, rfl⟩
        simp only [outL, LV.bool.injEq, nameOk]
        first
          | (simp [h7]; done)
          | (have h6 : ¬ s.length ≤ 65536 := by omega
             simp [h6]; done)
          | (rw [all_not (i := i) (p := nameByte) (by omega) (by simp only [nameByte, Bool.or_eq_false_iff, Bool.and_eq_false_iff, decide_eq_false_iff_not]; omega)]; simp; done)
          | (have h6 : s.length ≤ 65536 := by omega
             have hi' : i = s.length := by omega
             subst hi'
             rw [List.take_length] at hall
             simp [hall, h7, h6]; done)
def valueOk (s : List UInt8) : Bool := decide (s.length ≤ 65536) && !s.any isCtl && (decide (s = []) || (!blank (s.getD 0 0) && !blank (s.getD (s.length - 1) 0)))
theorem value_wf (s : List UInt8) (hs : s.length ≤ 1048576) (σ : LZ.H) : WF Tryd.prog ext 77 [.str s] σ (fun v σ' => v = .bool (valueOk s) ∧ σ' = σ) := by
  refine WF.body rfl Tryd.func77 rfl rfl ?_
  refine WC.seq ?_
  refine WC.region ?_
  refine WO.run 1 rfl ?_
  refine WO.nil ?_
  show WC _ _ _ _ _ _
  refine WC.seq ?_
  refine WC.seq ?_
  refine WC.region ?_
  refine WO.run 3 rfl ?_
  refine WO2.both rfl rfl (fun h6 => ?_) (fun h6 => ?_)
  · refine ⟨_, rfl, ?_⟩
    replace h6 := of_decide_eq_true h6
    refine WO.run 3 rfl ?_
    refine WO.nil ?_
    show WC _ _ _ _ _ _
    refine WC.cond rfl (fun _ => ?_) (fun hc => ?_)
    rotate_left
    · first | exact absurd hc (by decide) | (exfalso; simp_all; done)
    refine WC.seq ?_
    refine WC.region ?_
    refine WO.run 1 rfl ?_
    refine WO.nil ?_
    show WC _ _ _ _ _ _
    refine WC.ret ?_
    refine ⟨_, (res_tmp rfl res_nil), ?_⟩
    refine ⟨?_, rfl⟩
    simp only [outL, LV.bool.injEq, valueOk]
    first
      | (have h6' : ¬ s.length ≤ 65536 := by omega
         simp [h6']; done)
      | (simp only [c9]; simp; done)
      | (have h6' : s.length ≤ 65536 := by omega
         simp only [c9, h6', h12]; simp_all; done)
      | (have h6' : s.length ≤ 65536 := by omega
         simp only [c9, h6', h12]; simp; done)
  · refine ⟨_, rfl, ?_⟩
    replace h6 := of_decide_eq_false h6
    refine WO.run 1 rfl ?_
    refine WO2.call rfl rfl rfl rfl rfl ?_
    refine WF.extern rfl (extCtl_eq hs _) ?_
    refine ⟨_, rfl, ?_⟩
    refine WO.run 1 rfl ?_
    refine WO.nil ?_
    show WC _ _ _ _ _ _
    refine WC.cond rfl (fun c9 => ?_) (fun c9 => ?_)
    · refine WC.seq ?_
      refine WC.region ?_
      refine WO.run 1 rfl ?_
      refine WO.nil ?_
      show WC _ _ _ _ _ _
      refine WC.ret ?_
      refine ⟨_, (res_tmp rfl res_nil), ?_⟩
      refine ⟨?_, rfl⟩
      simp only [outL, LV.bool.injEq, valueOk]
      first
        | (have h6' : ¬ s.length ≤ 65536 := by omega
           simp [h6']; done)
        | (simp only [c9]; simp; done)
        | (have h6' : s.length ≤ 65536 := by omega
           simp only [c9, h6', h12]; simp_all; done)
        | (have h6' : s.length ≤ 65536 := by omega
           simp only [c9, h6', h12]; simp; done)
    · refine WC.skip ?_
      show WC _ _ _ _ _ _
      refine WC.seq ?_
      refine WC.region ?_
      refine WO.run 2 rfl ?_
      refine WO2.both rfl rfl (fun h12 => ?_) (fun h12 => ?_)
      · refine ⟨_, rfl, ?_⟩
        replace h12 := show _ = ([] : List UInt8) from eq_of_beq h12
        refine WO.run 15 rfl ?_
        refine WO.nil ?_
        show WC _ _ _ _ _ _
        refine WC.ret ?_
        refine ⟨_, (res_tmp rfl res_nil), ?_⟩
        refine ⟨?_, rfl⟩
        simp only [outL, LV.bool.injEq, valueOk]
        first
          | (have h6' : ¬ s.length ≤ 65536 := by omega
             simp [h6']; done)
          | (simp only [c9]; simp; done)
          | (have h6' : s.length ≤ 65536 := by omega
             simp only [c9, h6', h12]; simp_all; done)
          | (have h6' : s.length ≤ 65536 := by omega
             simp only [c9, h6', h12]; simp; done)
      · refine ⟨_, rfl, ?_⟩
        replace h12 := show _ ≠ ([] : List UInt8) from ne_of_beq_false h12
        have h0 : s.length ≠ 0 := fun e => h12 (List.eq_nil_of_length_eq_zero e)
        refine WO.run 1 rfl ?_
        first
          | refine WO3.indexStr rfl rfl rfl rfl rfl (by omega) rfl ?_
          | refine WO2.indexStr rfl rfl rfl rfl rfl (by omega) rfl ?_
        refine WO2.call rfl rfl rfl rfl rfl ?_
        refine WF.mono (blank_wf _ _) ?_
        rintro _ _ ⟨rfl, rfl⟩
        refine ⟨_, rfl, ?_⟩
        refine WO.run 1 rfl ?_
        refine WO2.both rfl rfl (fun h17 => ?_) (fun h17 => ?_)
        · refine ⟨_, rfl, ?_⟩
          replace h17 := not_true_eq h17
          refine WO.run 3 rfl ?_
          refine WO2.val (v' := .int .i64 ((s.length - 1 : Nat) : Int)) rfl rfl (iv_wrap (by omega) (by omega)) rfl ?_
          first
            | refine WO3.indexStr rfl rfl rfl rfl rfl (by omega) rfl ?_
            | refine WO2.indexStr rfl rfl rfl rfl rfl (by omega) rfl ?_
          refine WO2.call rfl rfl rfl rfl rfl ?_
          refine WF.mono (blank_wf _ _) ?_
          rintro _ _ ⟨rfl, rfl⟩
          refine ⟨_, rfl, ?_⟩
          refine WO.run 4 rfl ?_
          refine WO.nil ?_
          show WC _ _ _ _ _ _
          refine WC.ret ?_
          refine ⟨_, (res_tmp rfl res_nil), ?_⟩
          refine ⟨?_, rfl⟩
          simp only [outL, LV.bool.injEq, valueOk]
          first
            | (have h6' : ¬ s.length ≤ 65536 := by omega
               simp [h6']; done)
            | (simp only [c9]; simp; done)
            | (have h6' : s.length ≤ 65536 := by omega
               simp only [c9, h6', h12]; simp_all; done)
            | (have h6' : s.length ≤ 65536 := by omega
               simp only [c9, h6', h12]; simp; done)
        · refine ⟨_, rfl, ?_⟩
          replace h17 := not_false_eq h17
          refine WO.run 10 rfl ?_
          refine WO.nil ?_
          show WC _ _ _ _ _ _
          refine WC.ret ?_
          refine ⟨_, (res_tmp rfl res_nil), ?_⟩
          refine ⟨?_, rfl⟩
          simp only [outL, LV.bool.injEq, valueOk]
          first
            | (have h6' : ¬ s.length ≤ 65536 := by omega
               simp [h6']; done)
            | (simp only [c9]; simp; done)
            | (have h6' : s.length ≤ 65536 := by omega
               simp only [c9, h6', h12]; simp_all; done)
            | (have h6' : s.length ≤ 65536 := by omega
               simp only [c9, h6', h12]; simp; done)
/-! ### Lists of fields -/
structure Fld where
  name : List UInt8
  value : List UInt8
  never : Bool
  deriving DecidableEq
def encF (f : Fld) : List LV := [.str f.name, .str f.value, .bool f.never]
/-- No text of a list is longer than so much. -/
def smallF (m : Nat) (fs : List Fld) : Prop := ∀ f ∈ fs, f.name.length ≤ m ∧ f.value.length ≤ m
def pColon : List UInt8 := [58]
def sTe : List UInt8 := [116, 101]
def sTrailers : List UInt8 := [116, 114, 97, 105, 108, 101, 114, 115]
def pstep (st : List (B × B) × Bool) (f : Fld) : Option (List (B × B) × Bool) :=
  if valueOk f.value = false then none
  else if prefixed f.name pColon = true then (if (getS f.name st.1).isSome = true ∨ st.2 = true then none else some (putS f.name f.value st.1, st.2))
  else if nameOk f.name = false ∨ barred f.name = true ∨ (f.name = sTe ∧ f.value ≠ sTrailers) then none
  else some (st.1, true)
def pseudoL (fs : List Fld) : Option (List (B × B) × Bool) := runL pstep ([], false) fs
theorem pseudo_wf (fs : List Fld) (p : P3) (n k : Nat) (σ : LZ.H) (hfs : RdL σ encF 3 p n k fs) (hsm : smallF 1048576 fs) (hn : n ≤ 1048576) :
    WF Tryd.prog ext 61 [.slice p n k] σ (fun v σ' => match pseudoL fs with
      | none => v = .tuple [.map none, .bool false] ∧ Hs [] σ σ' []
      | some (m, _) => ∃ r, v = .tuple [.map (some r), .bool true] ∧ Hs [] σ σ' [At.map r (encM m)]) := by
  refine WF.body rfl Tryd.func61 rfl rfl ?_
  have hs0 := Hs.nil σ
  have hlen := hfs.len
  refine WC.seq ?_
  refine WC.region ?_
  refine WO.run 2 rfl ?_
  refine WO.nil ?_
  show WC _ _ _ _ _ _
  refine WC.seq ?_
  refine WC.region ?_
  refine WO.ex rfl (Ob.makeMap hs0 rfl rfl fun _ => rfl) ?_
  rintro _ τ1 ⟨r10, rfl, hs1⟩
  refine ⟨_, rfl, ?_⟩
  clear hs0
  refine WO.run 1 rfl ?_
  refine WO.nil ?_
  show WC _ _ _ _ _ _
  refine WC.seq ?_
  refine WC.region ?_
  refine WO.run 1 rfl ?_
  refine WO.nil ?_
  show WC _ _ _ _ _ _
  refine WC.seq ?_
  refine WC.seq ?_
  refine WC.region ?_
  refine WO.run 3 rfl ?_
  refine WO.nil ?_
  show WC _ _ _ _ _ _
  refine WC.block ?_
  refine WC.lp3 (fun (i : Nat) (m : List (B × B)) (reg : Bool) => [(5, .bool reg), (13, .int .i64 (i : Int))]) [2, 3, 7, 8, 9, 14, 15, 16, 17, 18, 19, 20, 21, 22, 23, 24, 25, 26, 27, 28, 29, 30, 31, 32, 33, 34, 35, 36, 37, 38, 39, 40, 41, 42, 43, 44, 45, 46, 47, 48, 49, 50, 51, 52, 53, 54, 55, 56, 57, 58, 59] (fun (i : Nat) (m : List (B × B)) (reg : Bool) => fun τ => Hs [] σ τ [At.map r10 (encM m)] ∧ i ≤ n ∧ runL pstep ([], false) (fs.take i) = some (m, reg)) (fun (i : Nat) (m : List (B × B)) (reg : Bool) => n - i) (0) ([]) (false) (fun _ _ _ _ => rfl) rfl ⟨hs1, by omega, rfl⟩ ?_
  rintro i m reg g τ ⟨hs, hi, hrun⟩
  refine WC.seq ?_
  refine WC.region ?_
  refine WO.run 1 rfl ?_
  refine WO.nil ?_
  show WC _ _ _ _ _ _
  refine WC.seq ?_
  refine WC.cond rfl (fun c14 => ?_) (fun c14 => ?_)
  · replace c14 := of_decide_eq_true c14
    refine WC.skip ?_
    show WC _ _ _ _ _ _
    refine WC.seq ?_
    refine WC.block ?_
    refine WC.seq ?_
    refine WC.region ?_
    refine WO.ex rfl (Ob.indexN hfs rfl rfl rfl rfl rfl (by omega)) ?_
    rintro _ _ ⟨rfl, r15, o15, y15, rfl, hy15, hr15, hd15⟩
    refine ⟨_, rfl, ?_⟩
    have hb15 := hsm y15 (List.mem_of_getElem? hy15)
    refine WO2.op rfl (Ob.load rfl rfl (hd15.ldf hs.fr List.not_mem_nil (k := 0) rfl rfl)) rfl ?_
    refine WO.ex rfl (Ob.alloc hs rfl rfl fun _ => rfl) ?_
    rintro _ τ2 ⟨r7, rfl, hs2⟩
    refine ⟨_, rfl, ?_⟩
    refine WO.ex rfl (Ob.store hs2 1 rfl rfl rfl rfl rfl rfl rfl rfl) ?_
    rintro _ τ3 ⟨rfl, hs3⟩
    refine ⟨_, rfl, ?_⟩
    clear hs2
    refine WO.nil ?_
    show WC _ _ _ _ _ _
    refine WC.seq ?_
    refine WC.seq ?_
    refine WC.region ?_
    refine WO2.op rfl (Ob.fieldAddr (k := 1) rfl rfl rfl rfl rfl rfl) rfl ?_
    refine WO2.op rfl (Ob.load rfl rfl (hs3.ld 1 rfl rfl)) rfl ?_
    refine WO2.call rfl rfl rfl rfl rfl ?_
    refine WF.mono (value_wf _ (by first | omega | assumption) _) ?_
    rintro _ _ ⟨rfl, rfl⟩
    refine ⟨_, rfl, ?_⟩
    refine WO.run 1 rfl ?_
    refine WO.nil ?_
    show WC _ _ _ _ _ _
    refine WC.cond rfl (fun c20 => ?_) (fun c20 => ?_)
    · replace c20 := not_true_eq c20
      refine WC.seq ?_
      refine WC.region ?_
      refine WO.run 2 rfl ?_
      refine WO.nil ?_
      show WC _ _ _ _ _ _
      refine WC.ret ?_
      refine ⟨_, (res_tmp rfl (res_tmp rfl res_nil)), ?_⟩
      first
        | (have hx : pseudoL fs = none := runL_none hrun hy15 (by simp_all [pstep, pColon, sTe, sTrailers])
           rw [hx]
           exact ⟨rfl, hs3.none⟩)
        | (have hx : pseudoL fs = some (m, reg) := runL_all hrun (by omega)
           rw [hx]
           exact ⟨_, rfl, hs3⟩)
    · replace c20 := not_false_eq c20
      refine WC.skip ?_
      show WC _ _ _ _ _ _
      refine WC.seq ?_
      refine WC.seq ?_
      refine WC.region ?_
      refine WO2.op rfl (Ob.fieldAddr (k := 0) rfl rfl rfl rfl rfl rfl) rfl ?_
      refine WO2.op rfl (Ob.load rfl rfl (hs3.ld 1 rfl rfl)) rfl ?_
      refine WO2.call rfl rfl rfl rfl rfl ?_
      refine WF.mono (hasPrefix_wf _ _ _) ?_
      rintro _ _ ⟨rfl, rfl⟩
      refine ⟨_, rfl, ?_⟩
      refine WO.nil ?_
      show WC _ _ _ _ _ _
      refine WC.cond rfl (fun c23 => ?_) (fun c23 => ?_)
      · refine WC.seq ?_
        refine WC.seq ?_
        refine WC.region ?_
        refine WO.run 1 rfl ?_
        refine WO2.op rfl (Ob.fieldAddr (k := 0) rfl rfl rfl rfl rfl rfl) rfl ?_
        refine WO2.op rfl (Ob.load rfl rfl (hs3.ld 1 rfl rfl)) rfl ?_
        refine WO2.op rfl (Ob.lookupSk rfl rfl rfl rfl rfl (hs3.get (i := 0) rfl) rfl) rfl ?_
        refine WO.run 5 rfl ?_
        refine WO.nil ?_
        show WC _ _ _ _ _ _
        refine WC.seq ?_
        refine WC.region ?_
        refine WO.run 1 rfl ?_
        refine WO2.both rfl rfl (fun h32 => ?_) (fun h32 => ?_)
        · refine ⟨_, rfl, ?_⟩
          refine WO.run 2 rfl ?_
          refine WO.nil ?_
          show WC _ _ _ _ _ _
          refine WC.cond rfl (fun _ => ?_) (fun hc => ?_)
          rotate_left
          · first | exact absurd hc (by decide) | (exfalso; simp_all; done)
          refine WC.seq ?_
          refine WC.region ?_
          refine WO.run 2 rfl ?_
          refine WO.nil ?_
          show WC _ _ _ _ _ _
          refine WC.ret ?_
          refine ⟨_, (res_tmp rfl (res_tmp rfl res_nil)), ?_⟩
          first
            | (have hx : pseudoL fs = none := runL_none hrun hy15 (by simp_all [pstep, pColon, sTe, sTrailers])
               rw [hx]
               exact ⟨rfl, hs3.none⟩)
            | (have hx : pseudoL fs = some (m, reg) := runL_all hrun (by omega)
               rw [hx]
               exact ⟨_, rfl, hs3⟩)
        · refine ⟨_, rfl, ?_⟩
          refine WO.run 2 rfl ?_
          refine WO.nil ?_
          show WC _ _ _ _ _ _
          refine WC.cond rfl (fun c34 => ?_) (fun c34 => ?_)
          · refine WC.seq ?_
            refine WC.region ?_
            refine WO.run 2 rfl ?_
            refine WO.nil ?_
            show WC _ _ _ _ _ _
            refine WC.ret ?_
            refine ⟨_, (res_tmp rfl (res_tmp rfl res_nil)), ?_⟩
            first
              | (have hx : pseudoL fs = none := runL_none hrun hy15 (by simp_all [pstep, pColon, sTe, sTrailers])
                 rw [hx]
                 exact ⟨rfl, hs3.none⟩)
              | (have hx : pseudoL fs = some (m, reg) := runL_all hrun (by omega)
                 rw [hx]
                 exact ⟨_, rfl, hs3⟩)
          · refine WC.skip ?_
            show WC _ _ _ _ _ _
            refine WC.seq ?_
            refine WC.region ?_
            refine WO.run 1 rfl ?_
            refine WO2.op rfl (Ob.fieldAddr (k := 0) rfl rfl rfl rfl rfl rfl) rfl ?_
            refine WO2.op rfl (Ob.load rfl rfl (hs3.ld 1 rfl rfl)) rfl ?_
            refine WO2.op rfl (Ob.fieldAddr (k := 1) rfl rfl rfl rfl rfl rfl) rfl ?_
            refine WO2.op rfl (Ob.load rfl rfl (hs3.ld 1 rfl rfl)) rfl ?_
            refine WO.ex rfl (Ob.mapSet hs3 0 rfl rfl rfl rfl rfl rfl rfl (put_encM _ _ _) rfl) ?_
            rintro _ τ4 ⟨rfl, hs4⟩
            refine ⟨_, rfl, ?_⟩
            clear hs3
            refine WO.nil ?_
            show WC _ _ _ _ _ _
            refine WC.exit ?_
            show WC _ _ _ _ _ _
            refine WC.region ?_
            refine WO2.val (v' := .int .i64 ((i + 1 : Nat) : Int)) rfl rfl (iv_wrap (by omega) (by omega)) rfl ?_
            refine WO.run 1 rfl ?_
            refine WO.nil ?_
            first
              | exact ⟨i + 1, _, _, rfl, ⟨hs4.del 1 rfl rfl, by omega, runL_take hrun hy15 (by simp_all [pstep, pColon, sTe, sTrailers] <;> rfl)⟩, by omega⟩
      · refine WC.skip ?_
        show WC _ _ _ _ _ _
        refine WC.seq ?_
        refine WC.region ?_
        refine WO.run 1 rfl ?_
        refine WO.nil ?_
        show WC _ _ _ _ _ _
        refine WC.seq ?_
        refine WC.region ?_
        refine WO2.op rfl (Ob.fieldAddr (k := 0) rfl rfl rfl rfl rfl rfl) rfl ?_
        refine WO2.op rfl (Ob.load rfl rfl (hs3.ld 1 rfl rfl)) rfl ?_
        refine WO2.call rfl rfl rfl rfl rfl ?_
        refine WF.mono (name_wf _ (by first | omega | assumption) _) ?_
        rintro _ _ ⟨rfl, rfl⟩
        refine ⟨_, rfl, ?_⟩
        refine WO.run 1 rfl ?_
        refine WO2.both rfl rfl (fun h44 => ?_) (fun h44 => ?_)
        · refine ⟨_, rfl, ?_⟩
          replace h44 := not_true_eq h44
          refine WO.run 14 rfl ?_
          refine WO.nil ?_
          show WC _ _ _ _ _ _
          refine WC.cond rfl (fun _ => ?_) (fun hc => ?_)
          rotate_left
          · first | exact absurd hc (by decide) | (exfalso; simp_all; done)
          refine WC.seq ?_
          refine WC.region ?_
          refine WO.run 2 rfl ?_
          refine WO.nil ?_
          show WC _ _ _ _ _ _
          refine WC.ret ?_
          refine ⟨_, (res_tmp rfl (res_tmp rfl res_nil)), ?_⟩
          first
            | (have hx : pseudoL fs = none := runL_none hrun hy15 (by simp_all [pstep, pColon, sTe, sTrailers])
               rw [hx]
               exact ⟨rfl, hs3.none⟩)
            | (have hx : pseudoL fs = some (m, reg) := runL_all hrun (by omega)
               rw [hx]
               exact ⟨_, rfl, hs3⟩)
        · refine ⟨_, rfl, ?_⟩
          replace h44 := not_false_eq h44
          refine WO2.op rfl (Ob.fieldAddr (k := 0) rfl rfl rfl rfl rfl rfl) rfl ?_
          refine WO2.op rfl (Ob.load rfl rfl (hs3.ld 1 rfl rfl)) rfl ?_
          refine WO2.call rfl rfl rfl rfl rfl ?_
          refine WF.mono (barred_wf _ _) ?_
          rintro _ _ ⟨rfl, rfl⟩
          refine ⟨_, rfl, ?_⟩
          refine WO.run 1 rfl ?_
          refine WO2.both rfl rfl (fun h49 => ?_) (fun h49 => ?_)
          · refine ⟨_, rfl, ?_⟩
            refine WO.run 9 rfl ?_
            refine WO.nil ?_
            show WC _ _ _ _ _ _
            refine WC.cond rfl (fun _ => ?_) (fun hc => ?_)
            rotate_left
            · first | exact absurd hc (by decide) | (exfalso; simp_all; done)
            refine WC.seq ?_
            refine WC.region ?_
            refine WO.run 2 rfl ?_
            refine WO.nil ?_
            show WC _ _ _ _ _ _
            refine WC.ret ?_
            refine ⟨_, (res_tmp rfl (res_tmp rfl res_nil)), ?_⟩
            first
              | (have hx : pseudoL fs = none := runL_none hrun hy15 (by simp_all [pstep, pColon, sTe, sTrailers])
                 rw [hx]
                 exact ⟨rfl, hs3.none⟩)
              | (have hx : pseudoL fs = some (m, reg) := runL_all hrun (by omega)
                 rw [hx]
                 exact ⟨_, rfl, hs3⟩)
          · refine ⟨_, rfl, ?_⟩
            refine WO2.op rfl (Ob.fieldAddr (k := 0) rfl rfl rfl rfl rfl rfl) rfl ?_
            refine WO2.op rfl (Ob.load rfl rfl (hs3.ld 1 rfl rfl)) rfl ?_
            refine WO.run 1 rfl ?_
            refine WO2.both rfl rfl (fun h53 => ?_) (fun h53 => ?_)
            · refine ⟨_, rfl, ?_⟩
              replace h53 := show _ = ([116, 101] : List UInt8) from eq_of_beq h53
              refine WO2.op rfl (Ob.fieldAddr (k := 1) rfl rfl rfl rfl rfl rfl) rfl ?_
              refine WO2.op rfl (Ob.load rfl rfl (hs3.ld 1 rfl rfl)) rfl ?_
              refine WO.run 3 rfl ?_
              refine WO.nil ?_
              show WC _ _ _ _ _ _
              refine WC.cond rfl (fun c58 => ?_) (fun c58 => ?_)
              · replace c58 := show _ ≠ ([116, 114, 97, 105, 108, 101, 114, 115] : List UInt8) from bne_iff_ne.1 c58
                refine WC.seq ?_
                refine WC.region ?_
                refine WO.run 2 rfl ?_
                refine WO.nil ?_
                show WC _ _ _ _ _ _
                refine WC.ret ?_
                refine ⟨_, (res_tmp rfl (res_tmp rfl res_nil)), ?_⟩
                first
                  | (have hx : pseudoL fs = none := runL_none hrun hy15 (by simp_all [pstep, pColon, sTe, sTrailers])
                     rw [hx]
                     exact ⟨rfl, hs3.none⟩)
                  | (have hx : pseudoL fs = some (m, reg) := runL_all hrun (by omega)
                     rw [hx]
                     exact ⟨_, rfl, hs3⟩)
              · replace c58 := show _ = ([116, 114, 97, 105, 108, 101, 114, 115] : List UInt8) from eq_of_bne_false c58
                refine WC.skip ?_
                show WC _ _ _ _ _ _
                refine WC.region ?_
                refine WO2.val (v' := .int .i64 ((i + 1 : Nat) : Int)) rfl rfl (iv_wrap (by omega) (by omega)) rfl ?_
                refine WO.run 1 rfl ?_
                refine WO.nil ?_
                first
                  | exact ⟨i + 1, _, _, rfl, ⟨hs3.del 1 rfl rfl, by omega, runL_take hrun hy15 (by simp_all [pstep, pColon, sTe, sTrailers] <;> rfl)⟩, by omega⟩
            · refine ⟨_, rfl, ?_⟩
              replace h53 := show _ ≠ ([116, 101] : List UInt8) from ne_of_beq_false h53
              refine WO.run 5 rfl ?_
              refine WO.nil ?_
              show WC _ _ _ _ _ _
              refine WC.cond rfl (fun hc => ?_) (fun _ => ?_)
              · first | exact absurd hc (by decide) | (exfalso; simp_all; done)
              refine WC.skip ?_
              show WC _ _ _ _ _ _
              refine WC.region ?_
              refine WO2.val (v' := .int .i64 ((i + 1 : Nat) : Int)) rfl rfl (iv_wrap (by omega) (by omega)) rfl ?_
              refine WO.run 1 rfl ?_
              refine WO.nil ?_
              first
                | exact ⟨i + 1, _, _, rfl, ⟨hs3.del 1 rfl rfl, by omega, runL_take hrun hy15 (by simp_all [pstep, pColon, sTe, sTrailers] <;> rfl)⟩, by omega⟩
  · replace c14 := of_decide_eq_false c14
    refine WC.exit ?_
    show WC _ _ _ _ _ _
    refine WC.seq ?_
    refine WC.region ?_
    refine WO.run 3 rfl ?_
    refine WO.nil ?_
    show WC _ _ _ _ _ _
    refine WC.ret ?_
    refine ⟨_, (res_tmp rfl (res_tmp rfl res_nil)), ?_⟩
    first
      | (have hx : pseudoL fs = none := runL_none hrun hy15 (by simp_all [pstep, pColon, sTe, sTrailers])
         rw [hx]
         exact ⟨rfl, hs.none⟩)
      | (have hx : pseudoL fs = some (m, reg) := runL_all hrun (by omega)
         rw [hx]
         exact ⟨_, rfl, hs⟩)
end Go.Proofs.YtamplhegepgaeaaDoor
end
section
/- Walks of this layer's functions on the logical memory, part 3: lists of fields that are asked. -/
open Go Go.LZ
namespace Go.Proofs.YtamplhegepgaeaaDoor
set_option maxRecDepth 10000
set_option linter.unusedSimpArgs false
set_option linter.unusedVariables false
def kMethod : List UInt8 := [58, 109, 101, 116, 104, 111, 100]
def kScheme : List UInt8 := [58, 115, 99, 104, 101, 109, 101]
def kAuth : List UInt8 := [58, 97, 117, 116, 104, 111, 114, 105, 116, 121]
def kPath : List UInt8 := [58, 112, 97, 116, 104]
def val (k : B) (m : List (B × B)) : B := (getS k m).getD []
def reqM (m : List (B × B)) : Bool := decide (val kMethod m ≠ []) && decide (val kScheme m ≠ []) && decide (m.length = if (getS kAuth m).isSome then 4 else 3) && (prefixed (val kPath m) [47] || decide (val kPath m = [42]))
def requestOk (fs : List Fld) : Bool := match pseudoL fs with
  | none => false
  | some (m, _) => reqM m
theorem request_wf (fs : List Fld) (p : P3) (n k : Nat) (σ : LZ.H) (hfs : RdL σ encF 3 p n k fs) (hsm : smallF 1048576 fs) (hn : n ≤ 1048576) :
    WF Tryd.prog ext 34 [.slice p n k] σ (fun v σ' => v = .int .i64 (if requestOk fs then 0 else 5) ∧ Hs [] σ σ' []) := by
  refine WF.body rfl Tryd.func34 rfl rfl ?_
  have hs0 := Hs.nil σ
  refine WC.seq ?_
  refine WC.region ?_
  refine WO.run 1 rfl ?_
  refine WO.nil ?_
  show WC _ _ _ _ _ _
  refine WC.seq ?_
  refine WC.region ?_
  refine WO.run 1 rfl ?_
  refine WO2.call rfl rfl rfl rfl rfl ?_
  refine WF.mono (pseudo_wf fs _ _ _ _ hfs hsm hn) ?_
  intro v τp hq
  rcases hp : pseudoL fs with _ | ⟨m, reg⟩
  · rw [hp] at hq
    obtain ⟨rfl, hx⟩ := hq
    have hs1 := hs0.add' hx rfl
    refine ⟨_, rfl, ?_⟩
    refine WO.run 5 rfl ?_
    refine WO.nil ?_
    show WC _ _ _ _ _ _
    refine WC.seq ?_
    refine WC.seq ?_
    refine WC.region ?_
    refine WO.run 12 rfl ?_
    refine WO.nil ?_
    show WC _ _ _ _ _ _
    refine WC.cond rfl (fun _ => ?_) (fun hc => ?_)
    rotate_left
    · first | exact absurd hc (by decide) | (exfalso; simp_all; done)
    refine WC.seq ?_
    refine WC.region ?_
    refine WO.run 1 rfl ?_
    refine WO.nil ?_
    show WC _ _ _ _ _ _
    refine WC.ret ?_
    refine ⟨_, (res_tmp rfl res_nil), ?_⟩
    refine ⟨?_, hs1.none⟩
    simp only [outL, LV.int.injEq, true_and]
    first
      | (have e : requestOk fs = false := by simp_all [requestOk, reqM, val, kMethod, kScheme, kAuth, kPath]
         rw [e]; rfl)
      | (have e : requestOk fs = false := by
           have h38' : m.length ≠ q := by omega
           clear h38; simp_all [requestOk, reqM, val, kMethod, kScheme, kAuth, kPath]
         rw [e]; rfl)
      | (have e : requestOk fs = true := by
           have h38' : m.length = q := by omega
           clear h38; simp_all [requestOk, reqM, val, kMethod, kScheme, kAuth, kPath]
         rw [e]; rfl)
      | (have e : requestOk fs = false := by
           have h38' : m.length = q := by omega
           clear h38; simp_all [requestOk, reqM, val, kMethod, kScheme, kAuth, kPath]
         rw [e]; rfl)
  · rw [hp] at hq
    obtain ⟨rm, rfl, hx⟩ := hq
    have hs2 := hs0.add' hx rfl
    refine ⟨_, rfl, ?_⟩
    refine WO.run 5 rfl ?_
    refine WO.nil ?_
    show WC _ _ _ _ _ _
    refine WC.seq ?_
    refine WC.seq ?_
    refine WC.region ?_
    refine WO.run 4 rfl ?_
    refine WO2.op rfl (Ob.lookupS rfl rfl rfl rfl rfl (hs2.get (i := 0) rfl) rfl) rfl ?_
    refine WO.run 2 rfl ?_
    refine WO2.both rfl rfl (fun h21 => ?_) (fun h21 => ?_)
    · refine ⟨_, rfl, ?_⟩
      replace h21 := show _ = ([] : List UInt8) from eq_of_beq h21
      refine WO.run 4 rfl ?_
      refine WO.nil ?_
      show WC _ _ _ _ _ _
      refine WC.cond rfl (fun _ => ?_) (fun hc => ?_)
      rotate_left
      · first | exact absurd hc (by decide) | (exfalso; simp_all; done)
      refine WC.seq ?_
      refine WC.region ?_
      refine WO.run 1 rfl ?_
      refine WO.nil ?_
      show WC _ _ _ _ _ _
      refine WC.ret ?_
      refine ⟨_, (res_tmp rfl res_nil), ?_⟩
      refine ⟨?_, hs2.none⟩
      simp only [outL, LV.int.injEq, true_and]
      first
        | (have e : requestOk fs = false := by simp_all [requestOk, reqM, val, kMethod, kScheme, kAuth, kPath]
           rw [e]; rfl)
        | (have e : requestOk fs = false := by
             have h38' : m.length ≠ q := by omega
             clear h38; simp_all [requestOk, reqM, val, kMethod, kScheme, kAuth, kPath]
           rw [e]; rfl)
        | (have e : requestOk fs = true := by
             have h38' : m.length = q := by omega
             clear h38; simp_all [requestOk, reqM, val, kMethod, kScheme, kAuth, kPath]
           rw [e]; rfl)
        | (have e : requestOk fs = false := by
             have h38' : m.length = q := by omega
             clear h38; simp_all [requestOk, reqM, val, kMethod, kScheme, kAuth, kPath]
           rw [e]; rfl)
    · refine ⟨_, rfl, ?_⟩
      replace h21 := show _ ≠ ([] : List UInt8) from ne_of_beq_false h21
      refine WO.run 1 rfl ?_
      refine WO2.op rfl (Ob.lookupS rfl rfl rfl rfl rfl (hs2.get (i := 0) rfl) rfl) rfl ?_
      refine WO.run 2 rfl ?_
      refine WO.nil ?_
      show WC _ _ _ _ _ _
      refine WC.cond rfl (fun c25 => ?_) (fun c25 => ?_)
      · replace c25 := show _ = ([] : List UInt8) from eq_of_beq c25
        refine WC.seq ?_
        refine WC.region ?_
        refine WO.run 1 rfl ?_
        refine WO.nil ?_
        show WC _ _ _ _ _ _
        refine WC.ret ?_
        refine ⟨_, (res_tmp rfl res_nil), ?_⟩
        refine ⟨?_, hs2.none⟩
        simp only [outL, LV.int.injEq, true_and]
        first
          | (have e : requestOk fs = false := by simp_all [requestOk, reqM, val, kMethod, kScheme, kAuth, kPath]
             rw [e]; rfl)
          | (have e : requestOk fs = false := by
               have h38' : m.length ≠ q := by omega
               clear h38; simp_all [requestOk, reqM, val, kMethod, kScheme, kAuth, kPath]
             rw [e]; rfl)
          | (have e : requestOk fs = true := by
               have h38' : m.length = q := by omega
               clear h38; simp_all [requestOk, reqM, val, kMethod, kScheme, kAuth, kPath]
             rw [e]; rfl)
          | (have e : requestOk fs = false := by
               have h38' : m.length = q := by omega
               clear h38; simp_all [requestOk, reqM, val, kMethod, kScheme, kAuth, kPath]
             rw [e]; rfl)
      · replace c25 := show _ ≠ ([] : List UInt8) from ne_of_beq_false c25
        refine WC.skip ?_
        show WC _ _ _ _ _ _
        refine WC.seq ?_
        refine WC.region ?_
        refine WO.run 1 rfl ?_
        refine WO.nil ?_
        show WC _ _ _ _ _ _
        refine WC.jn1 (fun (q : Nat) => [(5, .int .i64 (q : Int))]) [6, 7, 26, 27, 28, 29, 30, 31] (fun (q : Nat) => fun τ => Hs [] σ τ [At.map rm (encM m)] ∧ q = if (getS kAuth m).isSome then 4 else 3) (fun _ _ => rfl) ?_ ?_
        · refine WC.seq ?_
          refine WC.region ?_
          refine WO.run 1 rfl ?_
          refine WO2.op rfl (Ob.lookupSk rfl rfl rfl rfl rfl (hs2.get (i := 0) rfl) rfl) rfl ?_
          refine WO.run 5 rfl ?_
          refine WO.nil ?_
          show WC _ _ _ _ _ _
          refine WC.seq ?_
          refine WC.region ?_
          refine WO.run 1 rfl ?_
          refine WO.nil ?_
          show WC _ _ _ _ _ _
          refine WC.cond rfl (fun c31 => ?_) (fun c31 => ?_)
          · refine WC.region ?_
            refine WO.run 1 rfl ?_
            refine WO.nil ?_
            first
              | exact ⟨4, rfl, hs2, by rw [if_pos]; exact c31⟩
              | exact ⟨3, rfl, hs2, by rw [if_neg]; simp only [kAuth, c31]; simp⟩
          · refine WC.skip ?_
            first
              | exact ⟨4, rfl, hs2, by rw [if_pos]; exact c31⟩
              | exact ⟨3, rfl, hs2, by rw [if_neg]; simp only [kAuth, c31]; simp⟩
        rintro q g τ ⟨hs, hq5⟩
        refine WC.seq ?_
        refine WC.seq ?_
        refine WC.region ?_
        refine WO.run 1 rfl ?_
        refine WO2.op rfl (Ob.lookupS rfl rfl rfl rfl rfl (hs.get (i := 0) rfl) rfl) rfl ?_
        refine WO.run 1 rfl ?_
        refine WO.nil ?_
        show WC _ _ _ _ _ _
        refine WC.seq ?_
        refine WC.region ?_
        refine WO.run 1 rfl ?_
        refine WO2.op rfl (Ob.lenMapS rfl rfl rfl rfl rfl (hs.get (i := 0) rfl)) rfl ?_
        refine WO.run 2 rfl ?_
        refine WO2.both rfl rfl (fun h38 => ?_) (fun h38 => ?_)
        · refine ⟨_, rfl, ?_⟩
          replace h38 := bne_iff_ne.1 h38
          refine WO.run 8 rfl ?_
          refine WO.nil ?_
          show WC _ _ _ _ _ _
          refine WC.cond rfl (fun _ => ?_) (fun hc => ?_)
          rotate_left
          · first | exact absurd hc (by decide) | (exfalso; simp_all; done)
          refine WC.seq ?_
          refine WC.region ?_
          refine WO.run 1 rfl ?_
          refine WO.nil ?_
          show WC _ _ _ _ _ _
          refine WC.ret ?_
          refine ⟨_, (res_tmp rfl res_nil), ?_⟩
          refine ⟨?_, hs.none⟩
          simp only [outL, LV.int.injEq, true_and]
          first
            | (have e : requestOk fs = false := by simp_all [requestOk, reqM, val, kMethod, kScheme, kAuth, kPath]
               rw [e]; rfl)
            | (have e : requestOk fs = false := by
                 have h38' : m.length ≠ q := by omega
                 clear h38; simp_all [requestOk, reqM, val, kMethod, kScheme, kAuth, kPath]
               rw [e]; rfl)
            | (have e : requestOk fs = true := by
                 have h38' : m.length = q := by omega
                 clear h38; simp_all [requestOk, reqM, val, kMethod, kScheme, kAuth, kPath]
               rw [e]; rfl)
            | (have e : requestOk fs = false := by
                 have h38' : m.length = q := by omega
                 clear h38; simp_all [requestOk, reqM, val, kMethod, kScheme, kAuth, kPath]
               rw [e]; rfl)
        · refine ⟨_, rfl, ?_⟩
          replace h38 := eq_of_bne_false h38
          refine WO.run 1 rfl ?_
          refine WO2.call rfl rfl rfl rfl rfl ?_
          refine WF.mono (hasPrefix_wf _ _ _) ?_
          rintro _ _ ⟨rfl, rfl⟩
          refine ⟨_, rfl, ?_⟩
          refine WO.run 1 rfl ?_
          refine WO2.both rfl rfl (fun h42 => ?_) (fun h42 => ?_)
          · refine ⟨_, rfl, ?_⟩
            replace h42 := not_true_eq h42
            refine WO.run 4 rfl ?_
            refine WO.nil ?_
            show WC _ _ _ _ _ _
            refine WC.cond rfl (fun c46 => ?_) (fun c46 => ?_)
            · replace c46 := show _ ≠ ([42] : List UInt8) from bne_iff_ne.1 c46
              refine WC.seq ?_
              refine WC.region ?_
              refine WO.run 1 rfl ?_
              refine WO.nil ?_
              show WC _ _ _ _ _ _
              refine WC.ret ?_
              refine ⟨_, (res_tmp rfl res_nil), ?_⟩
              refine ⟨?_, hs.none⟩
              simp only [outL, LV.int.injEq, true_and]
              first
                | (have e : requestOk fs = false := by simp_all [requestOk, reqM, val, kMethod, kScheme, kAuth, kPath]
                   rw [e]; rfl)
                | (have e : requestOk fs = false := by
                     have h38' : m.length ≠ q := by omega
                     clear h38; simp_all [requestOk, reqM, val, kMethod, kScheme, kAuth, kPath]
                   rw [e]; rfl)
                | (have e : requestOk fs = true := by
                     have h38' : m.length = q := by omega
                     clear h38; simp_all [requestOk, reqM, val, kMethod, kScheme, kAuth, kPath]
                   rw [e]; rfl)
                | (have e : requestOk fs = false := by
                     have h38' : m.length = q := by omega
                     clear h38; simp_all [requestOk, reqM, val, kMethod, kScheme, kAuth, kPath]
                   rw [e]; rfl)
            · replace c46 := show _ = ([42] : List UInt8) from eq_of_bne_false c46
              refine WC.skip ?_
              show WC _ _ _ _ _ _
              refine WC.seq ?_
              refine WC.region ?_
              refine WO.run 1 rfl ?_
              refine WO.nil ?_
              show WC _ _ _ _ _ _
              refine WC.ret ?_
              refine ⟨_, (res_tmp rfl res_nil), ?_⟩
              refine ⟨?_, hs.none⟩
              simp only [outL, LV.int.injEq, true_and]
              first
                | (have e : requestOk fs = false := by simp_all [requestOk, reqM, val, kMethod, kScheme, kAuth, kPath]
                   rw [e]; rfl)
                | (have e : requestOk fs = false := by
                     have h38' : m.length ≠ q := by omega
                     clear h38; simp_all [requestOk, reqM, val, kMethod, kScheme, kAuth, kPath]
                   rw [e]; rfl)
                | (have e : requestOk fs = true := by
                     have h38' : m.length = q := by omega
                     clear h38; simp_all [requestOk, reqM, val, kMethod, kScheme, kAuth, kPath]
                   rw [e]; rfl)
                | (have e : requestOk fs = false := by
                     have h38' : m.length = q := by omega
                     clear h38; simp_all [requestOk, reqM, val, kMethod, kScheme, kAuth, kPath]
                   rw [e]; rfl)
          · refine ⟨_, rfl, ?_⟩
            replace h42 := not_false_eq h42
            refine WO.run 4 rfl ?_
            refine WO.nil ?_
            show WC _ _ _ _ _ _
            refine WC.cond rfl (fun hc => ?_) (fun _ => ?_)
            · first | exact absurd hc (by decide) | (exfalso; simp_all; done)
            refine WC.skip ?_
            show WC _ _ _ _ _ _
            refine WC.seq ?_
            refine WC.region ?_
            refine WO.run 1 rfl ?_
            refine WO.nil ?_
            show WC _ _ _ _ _ _
            refine WC.ret ?_
            refine ⟨_, (res_tmp rfl res_nil), ?_⟩
            refine ⟨?_, hs.none⟩
            simp only [outL, LV.int.injEq, true_and]
            first
              | (have e : requestOk fs = false := by simp_all [requestOk, reqM, val, kMethod, kScheme, kAuth, kPath]
                 rw [e]; rfl)
              | (have e : requestOk fs = false := by
                   have h38' : m.length ≠ q := by omega
                   clear h38; simp_all [requestOk, reqM, val, kMethod, kScheme, kAuth, kPath]
                 rw [e]; rfl)
              | (have e : requestOk fs = true := by
                   have h38' : m.length = q := by omega
                   clear h38; simp_all [requestOk, reqM, val, kMethod, kScheme, kAuth, kPath]
                 rw [e]; rfl)
              | (have e : requestOk fs = false := by
                   have h38' : m.length = q := by omega
                   clear h38; simp_all [requestOk, reqM, val, kMethod, kScheme, kAuth, kPath]
                 rw [e]; rfl)
end Go.Proofs.YtamplhegepgaeaaDoor
end
section
/- Walks of this layer's functions on the logical memory, part 4: a request's head. -/
open Go Go.LZ
namespace Go.Proofs.YtamplhegepgaeaaDoor
set_option maxRecDepth 10000
set_option linter.unusedSimpArgs false
set_option linter.unusedVariables false
/-- A map whose texts are not longer than so much. -/
def smallM (M : Nat) (ps : List (B × B)) : Prop := ∀ p ∈ ps, p.2.length ≤ M
theorem mem_putS {k v : B} {p : B × B} : ∀ {ps : List (B × B)}, p ∈ putS k v ps → p = (k, v) ∨ p ∈ ps
  | [], h => by simp [putS, lookS] at h; exact .inl h
  | (k', v') :: ps, h => by
    rw [putS_cons] at h
    split at h
    · rcases List.mem_cons.1 h with h | h
      · exact .inl h
      · exact .inr (List.mem_cons_of_mem _ h)
    · rcases List.mem_cons.1 h with h | h
      · exact .inr (by rw [h]; exact List.mem_cons_self)
      · rcases mem_putS h with h | h
        · exact .inl h
        · exact .inr (List.mem_cons_of_mem _ h)
theorem smallM.put {M : Nat} {ps : List (B × B)} (h : smallM M ps) {k v : B} (hv : v.length ≤ M) : smallM M (putS k v ps) := fun p hp => (mem_putS hp).elim (fun e => by rw [e]; exact hv) (h p)
theorem mem_getS {k v : B} : ∀ {ps : List (B × B)}, getS k ps = some v → (k, v) ∈ ps
  | [], h => by simp [getS_nil] at h
  | (k', v') :: ps, h => by
    rw [getS_cons] at h
    split at h
    · rename_i e; obtain rfl := Option.some.inj h; subst e; exact List.mem_cons_self
    · exact List.mem_cons_of_mem _ (mem_getS h)
theorem smallM.val {M : Nat} {ps : List (B × B)} (h : smallM M ps) (k : B) : (val k ps).length ≤ M := by
  unfold YtamplhegepgaeaaDoor.val
  cases hg : getS k ps with
  | none => simp
  | some v => exact h _ (mem_getS hg)
def sHttp : List UInt8 := [104, 116, 116, 112]
def names4 : List B := [kMethod, kScheme, kAuth, kPath]
def encS (s : B) : List LV := [.str s]
def hstep (st : Nat × List (B × B)) (f : Fld) : Option (Nat × List (B × B)) :=
  if f.never = true then none
  else if st.1 < 4 then (if f.name = names4.getD st.1 [] then some (st.1 + 1, putS f.name f.value st.2) else none)
  else if ownLine f.name = true ∨ f.value.all text = false then none
  else some (st.1 + 1, st.2)
def headsL (fs : List Fld) : Option (Nat × List (B × B)) := runL hstep (0, []) fs
def headOk (m : List (B × B)) : Bool := decide (val kScheme m = sHttp) && decide (val kAuth m ≠ []) && (val kAuth m).all graph && methodOk (val kMethod m) && pathOk (val kPath m)
theorem heads_wf (fs : List Fld) (p : P3) (n k : Nat) (σ : LZ.H) (hfs : RdL σ encF 3 p n k fs) (hsm : smallF 1048576 fs) (hn : n ≤ 1048576) :
    WF Tryd.prog ext 35 [.slice p n k] σ (fun v σ' => match headsL fs with
      | none => v = .tuple [.map none, .slice none 0 0, .bool false] ∧ Hs [] σ σ' []
      | some (_, m) => ∃ r, v = .tuple [.map (some r), .slice (shP p (min n 4 * 3)) (n - min n 4) (k - min n 4), .bool (headOk m)] ∧ Hs [] σ σ' [At.map r (encM m)]) := by
  refine WF.body rfl Tryd.func35 rfl rfl ?_
  have hs0 := Hs.nil σ
  have hlen := hfs.len
  refine WC.seq ?_
  refine WC.region ?_
  refine WO.run 3 rfl ?_
  refine WO.nil ?_
  show WC _ _ _ _ _ _
  refine WC.seq ?_
  refine WC.region ?_
  refine WO.ex rfl (Ob.makeMap hs0 rfl rfl fun _ => rfl) ?_
  rintro _ τ1 ⟨r12, rfl, hs1⟩
  refine ⟨_, rfl, ?_⟩
  clear hs0
  refine WO.run 1 rfl ?_
  refine WO.nil ?_
  show WC _ _ _ _ _ _
  refine WC.seq ?_
  refine WC.region ?_
  refine WO.ex rfl (Ob.buildSlice (e := 9) (z := 0) hs1 rfl rfl rfl rfl rfl rfl fun _ => rfl) ?_
  rintro _ τ2 ⟨p13, rfl, hs2⟩
  refine ⟨_, rfl, ?_⟩
  clear hs1
  replace hs2 : Hs [] σ τ2 [At.map r12 (encM []), At.sl 9 1 p13 4 4 (names4.flatMap encS)] := hs2
  refine WO.run 1 rfl ?_
  refine WO.nil ?_
  show WC _ _ _ _ _ _
  refine WC.seq ?_
  refine WC.seq ?_
  refine WC.region ?_
  refine WO.run 3 rfl ?_
  refine WO.nil ?_
  show WC _ _ _ _ _ _
  refine WC.block ?_
  refine WC.lp2 (fun (i : Nat) (m : List (B × B)) => [(16, .int .i64 (i : Int))]) [2, 3, 4, 7, 8, 17, 18, 19, 20, 21, 22, 23, 24, 25, 26, 27, 28, 29, 30, 31, 32, 33, 34, 35, 36, 37, 38, 39, 40, 41, 42, 43, 44, 45, 46, 47, 48, 49, 50, 51] (fun (i : Nat) (m : List (B × B)) => fun τ => Hs [] σ τ [At.map r12 (encM m), At.sl 9 1 p13 4 4 (names4.flatMap encS)] ∧ i ≤ n ∧ runL hstep (0, []) (fs.take i) = some (i, m) ∧ smallM 1048576 m) (fun (i : Nat) (m : List (B × B)) => n - i) (0) ([]) (fun _ _ _ => rfl) rfl ⟨hs2, by omega, rfl, fun _ h => by cases h⟩ ?_
  rintro i m g τ ⟨hs, hi, hrun, hm⟩
  refine WC.seq ?_
  refine WC.region ?_
  refine WO.run 1 rfl ?_
  refine WO.nil ?_
  show WC _ _ _ _ _ _
  refine WC.seq ?_
  refine WC.cond rfl (fun c17 => ?_) (fun c17 => ?_)
  · replace c17 := of_decide_eq_true c17
    refine WC.skip ?_
    show WC _ _ _ _ _ _
    refine WC.seq ?_
    refine WC.block ?_
    refine WC.seq ?_
    refine WC.region ?_
    refine WO.run 1 rfl ?_
    refine WO.ex rfl (Ob.indexN hfs rfl rfl rfl rfl rfl (by omega)) ?_
    rintro _ _ ⟨rfl, r19, o19, y19, rfl, hy19, hr19, hd19⟩
    refine ⟨_, rfl, ?_⟩
    have hb19 := hsm y19 (List.mem_of_getElem? hy19)
    refine WO2.op rfl (Ob.load rfl rfl (hd19.ldf hs.fr List.not_mem_nil (k := 0) rfl rfl)) rfl ?_
    refine WO.ex rfl (Ob.alloc hs rfl rfl fun _ => rfl) ?_
    rintro _ τ3 ⟨r8, rfl, hs3⟩
    refine ⟨_, rfl, ?_⟩
    refine WO.run 1 rfl ?_
    refine WO.ex rfl (Ob.store hs3 2 rfl rfl rfl rfl rfl rfl rfl rfl) ?_
    rintro _ τ4 ⟨rfl, hs4⟩
    refine ⟨_, rfl, ?_⟩
    clear hs3
    refine WO.nil ?_
    show WC _ _ _ _ _ _
    refine WC.block ?_
    refine WC.seq ?_
    refine WC.region ?_
    refine WO2.op rfl (Ob.fieldAddr (k := 2) rfl rfl rfl rfl rfl rfl) rfl ?_
    refine WO2.op rfl (Ob.load rfl rfl (hs4.ld 2 rfl rfl)) rfl ?_
    refine WO.run 1 rfl ?_
    refine WO.nil ?_
    show WC _ _ _ _ _ _
    refine WC.cond rfl (fun c21 => ?_) (fun c21 => ?_)
    · refine WC.seq ?_
      refine WC.region ?_
      refine WO.run 3 rfl ?_
      refine WO.nil ?_
      show WC _ _ _ _ _ _
      refine WC.ret ?_
      refine ⟨_, (res_tmp rfl (res_tmp rfl (res_tmp rfl res_nil))), ?_⟩
      first
        | (have hx : headsL fs = none := runL_none hrun hy19 (by first | (simp [hstep, c21]; done) | (simp [hstep, c21, h4, c35, hy33]; done) | (simp [hstep, c21, h4, h45]; done) | (simp [hstep, c21, h4, h45, c41]; done))
           rw [hx]
           exact ⟨rfl, hs4.none⟩)
        | (have hx : headsL fs = some (i, m) := runL_all hrun (by omega)
           rw [hx]
           refine ⟨_, ?_, hs4.take 1⟩
           simp only [outL, LV.tuple.injEq, List.cons.injEq, LV.bool.injEq, true_and, and_true, headOk, val, kMethod, kScheme, kAuth, kPath, sHttp]
           first
             | (simp [h64, h68, h72, h77]; done)
             | (simp [h64, h68, h72]; done)
             | (simp [h64, h68]; done)
             | (simp [h64]; done))
    · refine WC.seq ?_
      refine WC.region ?_
      refine WO.run 5 rfl ?_
      refine WO.nil ?_
      show WC _ _ _ _ _ _
      refine WC.cond rfl (fun c24 => ?_) (fun c24 => ?_)
      · replace c24 := of_decide_eq_true c24
        have h4 : i < 4 := by omega
        refine WC.seq ?_
        refine WC.seq ?_
        refine WC.draw (by kernel_rfl) ?_
        refine WD2.op0 rfl rfl (Ob.fieldAddr (k := 0) rfl rfl rfl rfl rfl rfl) rfl ?_
        refine WD2.op1 rfl rfl (Ob.load rfl rfl (hs4.ld 2 rfl rfl)) rfl ?_
        refine WD.run 2 rfl ?_
        refine WD.ex0 rfl rfl (Ob.indexN (hs4.rdL (i := 1) rfl (by intro _; rfl) (by decide)) rfl rfl rfl rfl rfl (by omega)) ?_
        rintro _ ⟨-, r33, o33, y33, rfl, hy33, hr33, hd33⟩
        refine ⟨_, rfl, ?_⟩
        have hn33 : y33 = names4.getD i [] := by rw [List.getD_eq_getElem?_getD, hy33]; rfl
        refine WD2.op1 rfl rfl (Ob.load rfl rfl (hd33.ld (k := 0) rfl rfl)) rfl ?_
        refine WD.run 1 rfl ?_
        refine WD.nil ⟨reads_ok ⟨⟨.inr (opR_load rfl (hd33.ld (k := 0) rfl rfl)), trivial⟩, ⟨.inr (opR_load rfl (hs4.ld 2 rfl rfl)), trivial⟩, trivial⟩, ?_⟩
        show WC _ _ _ _ _ _
        refine WC.cond rfl (fun c35 => ?_) (fun c35 => ?_)
        · replace c35 := bne_iff_ne.1 c35
          refine WC.seq ?_
          refine WC.region ?_
          refine WO.run 3 rfl ?_
          refine WO.nil ?_
          show WC _ _ _ _ _ _
          refine WC.ret ?_
          refine ⟨_, (res_tmp rfl (res_tmp rfl (res_tmp rfl res_nil))), ?_⟩
          first
            | (have hx : headsL fs = none := runL_none hrun hy19 (by first | (simp [hstep, c21]; done) | (simp [hstep, c21, h4, c35, hy33]; done) | (simp [hstep, c21, h4, h45]; done) | (simp [hstep, c21, h4, h45, c41]; done))
               rw [hx]
               exact ⟨rfl, hs4.none⟩)
            | (have hx : headsL fs = some (i, m) := runL_all hrun (by omega)
               rw [hx]
               refine ⟨_, ?_, hs4.take 1⟩
               simp only [outL, LV.tuple.injEq, List.cons.injEq, LV.bool.injEq, true_and, and_true, headOk, val, kMethod, kScheme, kAuth, kPath, sHttp]
               first
                 | (simp [h64, h68, h72, h77]; done)
                 | (simp [h64, h68, h72]; done)
                 | (simp [h64, h68]; done)
                 | (simp [h64]; done))
        · replace c35 := eq_of_bne_false c35
          refine WC.skip ?_
          show WC _ _ _ _ _ _
          refine WC.region ?_
          refine WO.run 1 rfl ?_
          refine WO2.op rfl (Ob.fieldAddr (k := 0) rfl rfl rfl rfl rfl rfl) rfl ?_
          refine WO2.op rfl (Ob.load rfl rfl (hs4.ld 2 rfl rfl)) rfl ?_
          refine WO2.op rfl (Ob.fieldAddr (k := 1) rfl rfl rfl rfl rfl rfl) rfl ?_
          refine WO2.op rfl (Ob.load rfl rfl (hs4.ld 2 rfl rfl)) rfl ?_
          refine WO.ex rfl (Ob.mapSet hs4 0 rfl rfl rfl rfl rfl rfl rfl (put_encM _ _ _) rfl) ?_
          rintro _ τ5 ⟨rfl, hs5⟩
          refine ⟨_, rfl, ?_⟩
          clear hs4
          refine WO.nil ?_
          show WC _ _ _ _ _ _
          refine WC.region ?_
          refine WO2.val (v' := .int .i64 ((i + 1 : Nat) : Int)) rfl rfl (iv_wrap (by omega) (by omega)) rfl ?_
          refine WO.run 1 rfl ?_
          refine WO.nil ?_
          first
            | exact ⟨i + 1, _, rfl, ⟨hs5.del 2 rfl rfl, by omega, runL_take hrun hy19 (by simp [hstep, c21, h4, c35, hy33]; done), hm.put hb19.2⟩, by omega⟩
            | exact ⟨i + 1, _, rfl, ⟨hs5.del 2 rfl rfl, by omega, runL_take hrun hy19 (by simp [hstep, c21, h4, h45, c41]), hm⟩, by omega⟩
      · replace c24 := of_decide_eq_false c24
        have h4 : ¬ i < 4 := by omega
        refine WC.seq ?_
        refine WC.region ?_
        refine WO2.op rfl (Ob.fieldAddr (k := 0) rfl rfl rfl rfl rfl rfl) rfl ?_
        refine WO2.op rfl (Ob.load rfl rfl (hs4.ld 2 rfl rfl)) rfl ?_
        refine WO2.call rfl rfl rfl rfl rfl ?_
        refine WF.mono (own_wf _ _) ?_
        rintro _ _ ⟨rfl, rfl⟩
        refine ⟨_, rfl, ?_⟩
        refine WO2.both rfl rfl (fun h45 => ?_) (fun h45 => ?_)
        · refine ⟨_, rfl, ?_⟩
          refine WO.run 6 rfl ?_
          refine WO.nil ?_
          show WC _ _ _ _ _ _
          refine WC.cond rfl (fun _ => ?_) (fun hc => ?_)
          rotate_left
          · first | exact absurd hc (by decide) | (exfalso; simp_all; done)
          refine WC.seq ?_
          refine WC.region ?_
          refine WO.run 3 rfl ?_
          refine WO.nil ?_
          show WC _ _ _ _ _ _
          refine WC.ret ?_
          refine ⟨_, (res_tmp rfl (res_tmp rfl (res_tmp rfl res_nil))), ?_⟩
          first
            | (have hx : headsL fs = none := runL_none hrun hy19 (by first | (simp [hstep, c21]; done) | (simp [hstep, c21, h4, c35, hy33]; done) | (simp [hstep, c21, h4, h45]; done) | (simp [hstep, c21, h4, h45, c41]; done))
               rw [hx]
               exact ⟨rfl, hs4.none⟩)
            | (have hx : headsL fs = some (i, m) := runL_all hrun (by omega)
               rw [hx]
               refine ⟨_, ?_, hs4.take 1⟩
               simp only [outL, LV.tuple.injEq, List.cons.injEq, LV.bool.injEq, true_and, and_true, headOk, val, kMethod, kScheme, kAuth, kPath, sHttp]
               first
                 | (simp [h64, h68, h72, h77]; done)
                 | (simp [h64, h68, h72]; done)
                 | (simp [h64, h68]; done)
                 | (simp [h64]; done))
        · refine ⟨_, rfl, ?_⟩
          refine WO2.op rfl (Ob.fieldAddr (k := 1) rfl rfl rfl rfl rfl rfl) rfl ?_
          refine WO2.op rfl (Ob.load rfl rfl (hs4.ld 2 rfl rfl)) rfl ?_
          refine WO2.call rfl rfl rfl rfl rfl ?_
          refine WF.mono (all_wf text 65 text_wf _ (by omega) _) ?_
          rintro _ _ ⟨rfl, rfl⟩
          refine ⟨_, rfl, ?_⟩
          refine WO.run 3 rfl ?_
          refine WO.nil ?_
          show WC _ _ _ _ _ _
          refine WC.cond rfl (fun c41 => ?_) (fun c41 => ?_)
          · replace c41 := not_true_eq c41
            refine WC.seq ?_
            refine WC.region ?_
            refine WO.run 3 rfl ?_
            refine WO.nil ?_
            show WC _ _ _ _ _ _
            refine WC.ret ?_
            refine ⟨_, (res_tmp rfl (res_tmp rfl (res_tmp rfl res_nil))), ?_⟩
            first
              | (have hx : headsL fs = none := runL_none hrun hy19 (by first | (simp [hstep, c21]; done) | (simp [hstep, c21, h4, c35, hy33]; done) | (simp [hstep, c21, h4, h45]; done) | (simp [hstep, c21, h4, h45, c41]; done))
                 rw [hx]
                 exact ⟨rfl, hs4.none⟩)
              | (have hx : headsL fs = some (i, m) := runL_all hrun (by omega)
                 rw [hx]
                 refine ⟨_, ?_, hs4.take 1⟩
                 simp only [outL, LV.tuple.injEq, List.cons.injEq, LV.bool.injEq, true_and, and_true, headOk, val, kMethod, kScheme, kAuth, kPath, sHttp]
                 first
                   | (simp [h64, h68, h72, h77]; done)
                   | (simp [h64, h68, h72]; done)
                   | (simp [h64, h68]; done)
                   | (simp [h64]; done))
          · replace c41 := not_false_eq c41
            refine WC.skip ?_
            show WC _ _ _ _ _ _
            refine WC.region ?_
            refine WO2.val (v' := .int .i64 ((i + 1 : Nat) : Int)) rfl rfl (iv_wrap (by omega) (by omega)) rfl ?_
            refine WO.run 1 rfl ?_
            refine WO.nil ?_
            first
              | exact ⟨i + 1, _, rfl, ⟨hs4.del 2 rfl rfl, by omega, runL_take hrun hy19 (by simp [hstep, c21, h4, c35, hy33]; done), hm.put hb19.2⟩, by omega⟩
              | exact ⟨i + 1, _, rfl, ⟨hs4.del 2 rfl rfl, by omega, runL_take hrun hy19 (by simp [hstep, c21, h4, h45, c41]), hm⟩, by omega⟩
  · replace c17 := of_decide_eq_false c17
    refine WC.exit ?_
    show WC _ _ _ _ _ _
    refine WC.seq ?_
    refine WC.region ?_
    refine WO.run 5 rfl ?_
    refine WO2.val (v' := .int .i64 ((min n 4 : Nat) : Int)) rfl rfl (by congr 1; split <;> omega) rfl ?_
    refine WO2.op rfl (Ob.slLo (Rd.fr hfs.rd hs.fr (by simp)) rfl rfl rfl rfl rfl (by omega)) rfl ?_
    refine WO.run 1 rfl ?_
    refine WO.nil ?_
    show WC _ _ _ _ _ _
    refine WC.seq ?_
    refine WC.region ?_
    refine WO.run 1 rfl ?_
    refine WO2.op rfl (Ob.lookupS rfl rfl rfl rfl rfl (hs.get (i := 0) rfl) rfl) rfl ?_
    refine WO.run 1 rfl ?_
    refine WO.nil ?_
    show WC _ _ _ _ _ _
    refine WC.seq ?_
    refine WC.region ?_
    refine WO.run 1 rfl ?_
    refine WO2.op rfl (Ob.lookupS rfl rfl rfl rfl rfl (hs.get (i := 0) rfl) rfl) rfl ?_
    refine WO.run 1 rfl ?_
    refine WO2.both rfl rfl (fun h64 => ?_) (fun h64 => ?_)
    · refine ⟨_, rfl, ?_⟩
      replace h64 := show _ = ([104, 116, 116, 112] : List UInt8) from eq_of_beq h64
      refine WO.run 3 rfl ?_
      refine WO2.both rfl rfl (fun h68 => ?_) (fun h68 => ?_)
      · refine ⟨_, rfl, ?_⟩
        replace h68 := show _ ≠ ([] : List UInt8) from bne_iff_ne.1 h68
        refine WO.run 1 rfl ?_
        refine WO2.call rfl rfl rfl rfl rfl ?_
        refine WF.mono (all_wf graph 66 graph_wf _ (by have := hm.val kAuth; simp only [val, kAuth] at this; omega) _) ?_
        rintro _ _ ⟨rfl, rfl⟩
        refine ⟨_, rfl, ?_⟩
        refine WO.run 1 rfl ?_
        refine WO2.both rfl rfl (fun h72 => ?_) (fun h72 => ?_)
        · refine ⟨_, rfl, ?_⟩
          refine WO.run 1 rfl ?_
          refine WO2.op rfl (Ob.lookupS rfl rfl rfl rfl rfl (hs.get (i := 0) rfl) rfl) rfl ?_
          refine WO2.call rfl rfl rfl rfl rfl ?_
          refine WF.mono (method_wf _ (by have := hm.val kMethod; simp only [val, kMethod] at this; omega) _) ?_
          rintro _ _ ⟨rfl, rfl⟩
          refine ⟨_, rfl, ?_⟩
          refine WO.run 1 rfl ?_
          refine WO2.both rfl rfl (fun h77 => ?_) (fun h77 => ?_)
          · refine ⟨_, rfl, ?_⟩
            refine WO.run 1 rfl ?_
            refine WO2.op rfl (Ob.lookupS rfl rfl rfl rfl rfl (hs.get (i := 0) rfl) rfl) rfl ?_
            refine WO2.call rfl rfl rfl rfl rfl ?_
            refine WF.mono (path_wf _ (by have := hm.val kPath; simp only [val, kPath] at this; omega) _) ?_
            rintro _ _ ⟨rfl, rfl⟩
            refine ⟨_, rfl, ?_⟩
            refine WO.run 2 rfl ?_
            refine WO.nil ?_
            show WC _ _ _ _ _ _
            refine WC.seq ?_
            refine WC.region ?_
            refine WO.run 6 rfl ?_
            refine WO.nil ?_
            show WC _ _ _ _ _ _
            refine WC.ret ?_
            refine ⟨_, (res_tmp rfl (res_tmp rfl (res_tmp rfl res_nil))), ?_⟩
            first
              | (have hx : headsL fs = none := runL_none hrun hy19 (by first | (simp [hstep, c21]; done) | (simp [hstep, c21, h4, c35, hy33]; done) | (simp [hstep, c21, h4, h45]; done) | (simp [hstep, c21, h4, h45, c41]; done))
                 rw [hx]
                 exact ⟨rfl, hs.none⟩)
              | (have hx : headsL fs = some (i, m) := runL_all hrun (by omega)
                 rw [hx]
                 refine ⟨_, ?_, hs.take 1⟩
                 simp only [outL, LV.tuple.injEq, List.cons.injEq, LV.bool.injEq, true_and, and_true, headOk, val, kMethod, kScheme, kAuth, kPath, sHttp]
                 first
                   | (simp [h64, h68, h72, h77]; done)
                   | (simp [h64, h68, h72]; done)
                   | (simp [h64, h68]; done)
                   | (simp [h64]; done))
          · refine ⟨_, rfl, ?_⟩
            refine WO.run 5 rfl ?_
            refine WO.nil ?_
            show WC _ _ _ _ _ _
            refine WC.seq ?_
            refine WC.region ?_
            refine WO.run 6 rfl ?_
            refine WO.nil ?_
            show WC _ _ _ _ _ _
            refine WC.ret ?_
            refine ⟨_, (res_tmp rfl (res_tmp rfl (res_tmp rfl res_nil))), ?_⟩
            first
              | (have hx : headsL fs = none := runL_none hrun hy19 (by first | (simp [hstep, c21]; done) | (simp [hstep, c21, h4, c35, hy33]; done) | (simp [hstep, c21, h4, h45]; done) | (simp [hstep, c21, h4, h45, c41]; done))
                 rw [hx]
                 exact ⟨rfl, hs.none⟩)
              | (have hx : headsL fs = some (i, m) := runL_all hrun (by omega)
                 rw [hx]
                 refine ⟨_, ?_, hs.take 1⟩
                 simp only [outL, LV.tuple.injEq, List.cons.injEq, LV.bool.injEq, true_and, and_true, headOk, val, kMethod, kScheme, kAuth, kPath, sHttp]
                 first
                   | (simp [h64, h68, h72, h77]; done)
                   | (simp [h64, h68, h72]; done)
                   | (simp [h64, h68]; done)
                   | (simp [h64]; done))
        · refine ⟨_, rfl, ?_⟩
          refine WO.run 10 rfl ?_
          refine WO.nil ?_
          show WC _ _ _ _ _ _
          refine WC.seq ?_
          refine WC.region ?_
          refine WO.run 6 rfl ?_
          refine WO.nil ?_
          show WC _ _ _ _ _ _
          refine WC.ret ?_
          refine ⟨_, (res_tmp rfl (res_tmp rfl (res_tmp rfl res_nil))), ?_⟩
          first
            | (have hx : headsL fs = none := runL_none hrun hy19 (by first | (simp [hstep, c21]; done) | (simp [hstep, c21, h4, c35, hy33]; done) | (simp [hstep, c21, h4, h45]; done) | (simp [hstep, c21, h4, h45, c41]; done))
               rw [hx]
               exact ⟨rfl, hs.none⟩)
            | (have hx : headsL fs = some (i, m) := runL_all hrun (by omega)
               rw [hx]
               refine ⟨_, ?_, hs.take 1⟩
               simp only [outL, LV.tuple.injEq, List.cons.injEq, LV.bool.injEq, true_and, and_true, headOk, val, kMethod, kScheme, kAuth, kPath, sHttp]
               first
                 | (simp [h64, h68, h72, h77]; done)
                 | (simp [h64, h68, h72]; done)
                 | (simp [h64, h68]; done)
                 | (simp [h64]; done))
      · refine ⟨_, rfl, ?_⟩
        replace h68 := show _ = ([] : List UInt8) from eq_of_bne_false h68
        refine WO.run 14 rfl ?_
        refine WO.nil ?_
        show WC _ _ _ _ _ _
        refine WC.seq ?_
        refine WC.region ?_
        refine WO.run 6 rfl ?_
        refine WO.nil ?_
        show WC _ _ _ _ _ _
        refine WC.ret ?_
        refine ⟨_, (res_tmp rfl (res_tmp rfl (res_tmp rfl res_nil))), ?_⟩
        first
          | (have hx : headsL fs = none := runL_none hrun hy19 (by first | (simp [hstep, c21]; done) | (simp [hstep, c21, h4, c35, hy33]; done) | (simp [hstep, c21, h4, h45]; done) | (simp [hstep, c21, h4, h45, c41]; done))
             rw [hx]
             exact ⟨rfl, hs.none⟩)
          | (have hx : headsL fs = some (i, m) := runL_all hrun (by omega)
             rw [hx]
             refine ⟨_, ?_, hs.take 1⟩
             simp only [outL, LV.tuple.injEq, List.cons.injEq, LV.bool.injEq, true_and, and_true, headOk, val, kMethod, kScheme, kAuth, kPath, sHttp]
             first
               | (simp [h64, h68, h72, h77]; done)
               | (simp [h64, h68, h72]; done)
               | (simp [h64, h68]; done)
               | (simp [h64]; done))
    · refine ⟨_, rfl, ?_⟩
      replace h64 := show _ ≠ ([104, 116, 116, 112] : List UInt8) from ne_of_beq_false h64
      refine WO.run 18 rfl ?_
      refine WO.nil ?_
      show WC _ _ _ _ _ _
      refine WC.seq ?_
      refine WC.region ?_
      refine WO.run 6 rfl ?_
      refine WO.nil ?_
      show WC _ _ _ _ _ _
      refine WC.ret ?_
      refine ⟨_, (res_tmp rfl (res_tmp rfl (res_tmp rfl res_nil))), ?_⟩
      first
        | (have hx : headsL fs = none := runL_none hrun hy19 (by first | (simp [hstep, c21]; done) | (simp [hstep, c21, h4, c35, hy33]; done) | (simp [hstep, c21, h4, h45]; done) | (simp [hstep, c21, h4, h45, c41]; done))
           rw [hx]
           exact ⟨rfl, hs.none⟩)
        | (have hx : headsL fs = some (i, m) := runL_all hrun (by omega)
           rw [hx]
           refine ⟨_, ?_, hs.take 1⟩
           simp only [outL, LV.tuple.injEq, List.cons.injEq, LV.bool.injEq, true_and, and_true, headOk, val, kMethod, kScheme, kAuth, kPath, sHttp]
           first
             | (simp [h64, h68, h72, h77]; done)
             | (simp [h64, h68, h72]; done)
             | (simp [h64, h68]; done)
             | (simp [h64]; done))
end Go.Proofs.YtamplhegepgaeaaDoor
end
section
/- Walks of this layer's functions on the logical memory, part 5: frames of settings. -/
open Go Go.LZ
namespace Go.Proofs.YtamplhegepgaeaaDoor
set_option maxRecDepth 10000
set_option linter.unusedSimpArgs false
set_option linter.unusedVariables false
theorem padded_wf (σ : LZ.H) : WF Tryd.prog ext 69 [.int .i64 4] σ (fun v σ' => v = .bool false ∧ σ' = σ) := by
  refine WF.body rfl Tryd.func69 rfl rfl ?_
  refine WC.seq ?_
  refine WC.region ?_
  refine WO.run 1 rfl ?_
  refine WO.nil ?_
  show WC _ _ _ _ _ _
  refine WC.seq ?_
  refine WC.region ?_
  refine WO.run 11 rfl ?_
  refine WO.nil ?_
  show WC _ _ _ _ _ _
  refine WC.ret ?_
  refine ⟨_, (res_tmp rfl res_nil), ?_⟩
  exact ⟨rfl, rfl⟩
def low (n : Int) : Bool := decide (0 ≤ n) && decide (n ≤ 2147483647)
def word (n : Int) : Bool := decide (0 ≤ n) && decide (n < 4294967296)
theorem low_wf (n : Int) (σ : LZ.H) : WF Tryd.prog ext 70 [.int .i64 n] σ (fun v σ' => v = .bool (low n) ∧ σ' = σ) := by
  refine WF.body rfl Tryd.func70 rfl rfl ?_
  refine WC.seq ?_
  refine WC.region ?_
  refine WO.run 1 rfl ?_
  refine WO.nil ?_
  show WC _ _ _ _ _ _
  refine WC.seq ?_
  refine WC.region ?_
  refine WO.run 2 rfl ?_
  refine WO2.both rfl rfl (fun h5 => ?_) (fun h5 => ?_)
  · refine ⟨_, rfl, ?_⟩
    replace h5 := of_decide_eq_true h5
    refine WO.run 4 rfl ?_
    refine WO.nil ?_
    show WC _ _ _ _ _ _
    refine WC.ret ?_
    refine ⟨_, (res_tmp rfl res_nil), ?_⟩
    refine ⟨?_, rfl⟩
    simp only [outL, LV.bool.injEq, low]
    rw [Bool.eq_iff_iff]; simp <;> omega
  · refine ⟨_, rfl, ?_⟩
    replace h5 := of_decide_eq_false h5
    refine WO.run 4 rfl ?_
    refine WO.nil ?_
    show WC _ _ _ _ _ _
    refine WC.ret ?_
    refine ⟨_, (res_tmp rfl res_nil), ?_⟩
    refine ⟨?_, rfl⟩
    simp only [outL, LV.bool.injEq, low]
    rw [Bool.eq_iff_iff]; simp <;> omega
theorem word_wf (n : Int) (σ : LZ.H) : WF Tryd.prog ext 93 [.int .i64 n] σ (fun v σ' => v = .bool (word n) ∧ σ' = σ) := by
  refine WF.body rfl Tryd.func93 rfl rfl ?_
  refine WC.seq ?_
  refine WC.region ?_
  refine WO.run 1 rfl ?_
  refine WO.nil ?_
  show WC _ _ _ _ _ _
  refine WC.seq ?_
  refine WC.region ?_
  refine WO.run 2 rfl ?_
  refine WO2.both rfl rfl (fun h5 => ?_) (fun h5 => ?_)
  · refine ⟨_, rfl, ?_⟩
    replace h5 := of_decide_eq_true h5
    refine WO.run 4 rfl ?_
    refine WO.nil ?_
    show WC _ _ _ _ _ _
    refine WC.ret ?_
    refine ⟨_, (res_tmp rfl res_nil), ?_⟩
    refine ⟨?_, rfl⟩
    simp only [outL, LV.bool.injEq, word]
    rw [Bool.eq_iff_iff]; simp <;> omega
  · refine ⟨_, rfl, ?_⟩
    replace h5 := of_decide_eq_false h5
    refine WO.run 4 rfl ?_
    refine WO.nil ?_
    show WC _ _ _ _ _ _
    refine WC.ret ?_
    refine ⟨_, (res_tmp rfl res_nil), ?_⟩
    refine ⟨?_, rfl⟩
    simp only [outL, LV.bool.injEq, word]
    rw [Bool.eq_iff_iff]; simp <;> omega
theorem lay_wf (bs : List UInt8) (p : P3) (k size x : Nat) (σ : LZ.H) (h : Hp σ [At.bs 5 p bs.length k bs]) (hsz : size ≤ 8) (hb : bs.length ≤ 1048576000) (hx : x < 9223372036854775808) :
    WF Tryd.prog ext 92 [.slice p bs.length k, .int .i64 (size : Int), .int .i64 (x : Int)] σ (fun v σ' => ∃ p' k', v = .slice p' (bs ++ layB size x).length k' ∧ Hs (rowsOf p) σ σ' [At.bs 5 p' (bs ++ layB size x).length k' (bs ++ layB size x)]) := by
  refine WF.body rfl Tryd.func92 rfl rfl ?_
  have hs0 : Hs (rowsOf p) σ σ [At.bs 5 p bs.length k bs] := Hs.start1 h
  refine WC.seq ?_
  refine WC.region ?_
  refine WO.run 1 rfl ?_
  refine WO.nil ?_
  show WC _ _ _ _ _ _
  refine WC.seq ?_
  refine WC.seq ?_
  refine WC.region ?_
  refine WO.run 1 rfl ?_
  refine WO2.val (v' := .int .i64 ((size : Int) - 1)) rfl rfl (iz_wrap rfl (by omega)) rfl ?_
  refine WO.run 1 rfl ?_
  refine WO.nil ?_
  show WC _ _ _ _ _ _
  refine WC.block ?_
  refine WC.lp4 (fun (j : Nat) (out : B) (p1 : P3) (k1 : Nat) => [(0, .slice p1 out.length k1), (7, .int .i64 ((j : Int) - 1))]) [10, 11, 12, 13, 14, 15, 16, 17, 18, 19, 20, 21] (fun (j : Nat) (out : B) (p1 : P3) (k1 : Nat) => fun τ => Hs (rowsOf p) σ τ [At.bs 5 p1 out.length k1 out] ∧ j ≤ size ∧ out ++ layB j x = bs ++ layB size x) (fun (j : Nat) (out : B) (p1 : P3) (k1 : Nat) => j) (size) (bs) (p) (k) (fun _ _ _ _ _ => rfl) rfl ⟨hs0, by omega, rfl⟩ ?_
  rintro j out p1 k1 g τ ⟨hs, hj, hout⟩
  refine WC.seq ?_
  refine WC.seq ?_
  refine WC.region ?_
  refine WO.run 2 rfl ?_
  refine WO.nil ?_
  show WC _ _ _ _ _ _
  refine WC.cond rfl (fun c11 => ?_) (fun c11 => ?_)
  · replace c11 := of_decide_eq_true c11
    obtain ⟨j, rfl⟩ : ∃ i, j = i + 1 := ⟨j - 1, by omega⟩
    have e16 : ((j + 1 : Nat) : Int) - 1 = (j : Int) := by omega
    rw [e16]
    have hlen := congrArg List.length hout
    simp only [List.length_append, layB_length] at hlen
    refine WC.skip ?_
    show WC _ _ _ _ _ _
    refine WC.seq ?_
    refine WC.block ?_
    refine WC.region ?_
    refine WO.run 3 rfl ?_
    refine WO2.val (v' := .int .i64 ((8 * j : Nat) : Int)) rfl rfl (iv_wrap (by omega) (by omega)) rfl ?_
    refine WO2.op rfl (Ob.shrN rfl rfl rfl (by simp only [IntKind.bits]; omega)) rfl ?_
    refine WO2.val (v' := .int .u8 ((UInt8.ofNat (x / 2 ^ (8 * j))).toNat : Int)) rfl rfl (u8_wrap rfl) rfl ?_
    refine WO.ex rfl (Ob.buildSlice (e := 5) (z := 0) hs rfl rfl rfl rfl rfl rfl fun _ => rfl) ?_
    rintro _ τ1 ⟨p20, rfl, hs1⟩
    refine ⟨_, rfl, ?_⟩
    refine WO.ex rfl (Ob.appB (e := 5) (b := 1) (cs := [UInt8.ofNat (x / 2 ^ (8 * j))]) hs1 0 rfl rfl rfl rfl rfl rfl (Rd.src (hs1.rd (i := 1) rfl)) (by first | rfl | exact RdB.len (hs1.rd (i := 1) rfl)) (by simp only [List.length_append, List.length_cons, List.length_nil]; omega) fun _ _ => rfl) ?_
    rintro _ τ2 ⟨p21, k21, rfl, hs2⟩
    refine ⟨_, rfl, ?_⟩
    clear hs1
    replace hs2 := hs2.del 1 rfl rfl
    refine WO.run 1 rfl ?_
    refine WO.nil ?_
    show WC _ _ _ _ _ _
    refine WC.region ?_
    refine WO.run 1 rfl ?_
    refine WO2.val (v' := .int .i64 ((j : Int) - 1)) rfl rfl (iz_wrap rfl (by omega)) rfl ?_
    refine WO.run 1 rfl ?_
    refine WO.nil ?_
    exact ⟨j, out ++ [UInt8.ofNat (x / 2 ^ (8 * j))], _, _, rfl, ⟨hs2, by omega, by rw [← hout]; simp [layB]⟩, by omega⟩
  · replace c11 := of_decide_eq_false c11
    refine WC.exit ?_
    show WC _ _ _ _ _ _
    refine WC.seq ?_
    refine WC.region ?_
    refine WO.run 2 rfl ?_
    refine WO.nil ?_
    show WC _ _ _ _ _ _
    refine WC.ret ?_
    refine ⟨_, (res_tmp rfl res_nil), ?_⟩
    obtain rfl : j = 0 := by omega
    simp only [layB, List.append_nil] at hout
    subst hout
    exact ⟨_, _, rfl, hs⟩
end Go.Proofs.YtamplhegepgaeaaDoor
end
section
/- Walks of this layer's functions on the logical memory, part 6: a frame of settings is made. -/
open Go Go.LZ
namespace Go.Proofs.YtamplhegepgaeaaDoor
set_option maxRecDepth 10000
set_option linter.unusedSimpArgs false
set_option linter.unusedVariables false
structure Stg where
  id : Int
  val : Int
  deriving DecidableEq
def encT (s : Stg) : List LV := [.int .i64 s.id, .int .i64 s.val]
def setOk (s : Stg) : Bool := decide (0 ≤ s.id) && decide (s.id ≤ 65535) && word s.val
def setB (s : Stg) : List UInt8 := layB 2 s.id.toNat ++ layB 4 s.val.toNat
theorem setB_length (s : Stg) : (setB s).length = 6 := by simp [setB, layB_length]
theorem setsB_length (ss : List Stg) : (ss.flatMap setB).length = 6 * ss.length := by
  induction ss with
  | nil => rfl
  | cons s ss ih => rw [List.flatMap_cons, List.length_append, ih, setB_length, List.length_cons]; omega
def bodyC (q : P3) (n k : Nat) : List LV := [.slice none 0 0, .int .i64 0, .bool false, .bool false, .int .i64 0, .int .i64 0, .int .i64 0, .int .i64 0, .int .i64 0, .slice q n k, .int .i64 0]
theorem lay_wf2 (bs : List UInt8) (p : P3) (k size x : Nat) (sz z : Int) (e1 : sz = size) (e2 : z = x) (σ : LZ.H) (h : Hp σ [At.bs 5 p bs.length k bs]) (hsz : size ≤ 8) (hb : bs.length ≤ 1048576000) (hx : x < 9223372036854775808) :
    WF Tryd.prog ext 92 [.slice p bs.length k, .int .i64 sz, .int .i64 z] σ (fun v σ' => ∃ p' k', v = .slice p' (bs ++ layB size x).length k' ∧ Hs (rowsOf p) σ σ' [At.bs 5 p' (bs ++ layB size x).length k' (bs ++ layB size x)]) := by
  subst e1; subst e2; exact lay_wf bs p k size x σ h hsz hb hx
theorem payload_wf (ss : List Stg) (q : P3) (n k : Nat) (σ : LZ.H) (hss : RdL σ encT 2 q n k ss) (hn : n ≤ 1048576) :
    WF Tryd.prog ext 71 [.slice none 0 0, .int .i64 4, .int .i64 0, .agg (bodyC q n k)] σ (fun v σ' => if ss.all setOk = true
      then ∃ p' k', v = .tuple [.slice p' (ss.flatMap setB).length k', .bool true] ∧ Hs [] σ σ' [At.bs 5 p' (ss.flatMap setB).length k' (ss.flatMap setB)]
      else v = .tuple [.slice none 0 0, .bool false] ∧ Hs [] σ σ' []) := by
  refine WF.body rfl Tryd.func71 rfl rfl ?_
  have hs0 := Hs.nil σ
  have hlen := hss.len
  refine WC.seq ?_
  refine WC.region ?_
  refine WO.ex rfl (Ob.box hs0 rfl rfl rfl rfl fun _ => rfl) ?_
  rintro _ τ1 ⟨r7, rfl, hs1⟩
  refine ⟨_, rfl, ?_⟩
  clear hs0
  refine WO.run 2 rfl ?_
  refine WO.nil ?_
  show WC _ _ _ _ _ _
  refine WC.seq ?_
  refine WC.seq ?_
  refine WC.region ?_
  refine WO.run 1 rfl ?_
  refine WO.nil ?_
  show WC _ _ _ _ _ _
  refine WC.block ?_
  refine WC.seq ?_
  refine WC.seq ?_
  refine WC.region ?_
  refine WO.run 2 rfl ?_
  refine WO.nil ?_
  show WC _ _ _ _ _ _
  refine WC.cond rfl (fun hc => ?_) (fun _ => ?_)
  · first | exact absurd hc (by decide) | (exfalso; simp_all; done)
  refine WC.region ?_
  refine WO.run 2 rfl ?_
  refine WO.nil ?_
  show WC _ _ _ _ _ _
  refine WC.cond rfl (fun hc => ?_) (fun _ => ?_)
  · first | exact absurd hc (by decide) | (exfalso; simp_all; done)
  refine WC.seq ?_
  refine WC.region ?_
  refine WO.run 2 rfl ?_
  refine WO.nil ?_
  show WC _ _ _ _ _ _
  refine WC.cond rfl (fun hc => ?_) (fun _ => ?_)
  · first | exact absurd hc (by decide) | (exfalso; simp_all; done)
  refine WC.seq ?_
  refine WC.region ?_
  refine WO.run 2 rfl ?_
  refine WO.nil ?_
  show WC _ _ _ _ _ _
  refine WC.cond rfl (fun hc => ?_) (fun _ => ?_)
  · first | exact absurd hc (by decide) | (exfalso; simp_all; done)
  refine WC.seq ?_
  refine WC.region ?_
  refine WO.run 2 rfl ?_
  refine WO.nil ?_
  show WC _ _ _ _ _ _
  refine WC.cond rfl (fun hc => ?_) (fun _ => ?_)
  · first | exact absurd hc (by decide) | (exfalso; simp_all; done)
  refine WC.seq ?_
  refine WC.region ?_
  refine WO.run 2 rfl ?_
  refine WO.nil ?_
  show WC _ _ _ _ _ _
  refine WC.cond rfl (fun _ => ?_) (fun hc => ?_)
  rotate_left
  · first | exact absurd hc (by decide) | (exfalso; simp_all; done)
  refine WC.seq ?_
  refine WC.seq ?_
  refine WC.region ?_
  refine WO2.op rfl (Ob.fieldAddr (k := 9) rfl rfl rfl rfl rfl rfl) rfl ?_
  refine WO2.op rfl (Ob.load rfl rfl (hs1.ld 0 rfl rfl)) rfl ?_
  refine WO.run 2 rfl ?_
  refine WO.nil ?_
  show WC _ _ _ _ _ _
  refine WC.block ?_
  have hs9 := hs1.nilB 5 rfl
  refine WC.lp4 (fun (i : Nat) (out : B) (p1 : P3) (k1 : Nat) => [(0, .slice p1 out.length k1), (58, .int .i64 (i : Int))]) [8, 9, 12, 59, 60, 61, 62, 63, 64, 65, 66, 67, 68, 69, 70, 71, 72, 73, 74, 75, 76, 77, 78, 79, 80, 81, 82, 83] (fun (i : Nat) (out : B) (p1 : P3) (k1 : Nat) => fun τ => Hs [] σ τ [At.row r7 80 (bodyC q n k), At.bs 5 p1 out.length k1 out] ∧ i ≤ n ∧ (ss.take i).all setOk = true ∧ out = (ss.take i).flatMap setB) (fun (i : Nat) (out : B) (p1 : P3) (k1 : Nat) => n - i) (0) ([]) (none) (0) (fun _ _ _ _ _ => rfl) rfl ⟨hs9, by omega, rfl, rfl⟩ ?_
  rintro i out p1 k1 g τ ⟨hs, hi, hall, hout⟩
  refine WC.seq ?_
  refine WC.region ?_
  refine WO.run 1 rfl ?_
  refine WO.nil ?_
  show WC _ _ _ _ _ _
  refine WC.seq ?_
  refine WC.cond rfl (fun c59 => ?_) (fun c59 => ?_)
  · replace c59 := of_decide_eq_true c59
    refine WC.skip ?_
    show WC _ _ _ _ _ _
    refine WC.seq ?_
    refine WC.block ?_
    refine WC.seq ?_
    refine WC.region ?_
    refine WO.ex rfl (Ob.indexN hss rfl rfl rfl rfl rfl (by omega)) ?_
    rintro _ _ ⟨rfl, r60, o60, y60, rfl, hy60, hr60, hd60⟩
    refine ⟨_, rfl, ?_⟩
    have hlo := congrArg List.length hout
    rw [setsB_length, List.length_take] at hlo
    refine WO2.op rfl (Ob.load rfl rfl (hd60.ldf hs.fr List.not_mem_nil (k := 0) rfl rfl)) rfl ?_
    refine WO.ex rfl (Ob.alloc hs rfl rfl fun _ => rfl) ?_
    rintro _ τ2 ⟨r12, rfl, hs2⟩
    refine ⟨_, rfl, ?_⟩
    refine WO.ex rfl (Ob.store hs2 2 rfl rfl rfl rfl rfl rfl rfl rfl) ?_
    rintro _ τ3 ⟨rfl, hs3⟩
    refine ⟨_, rfl, ?_⟩
    clear hs2
    refine WO.nil ?_
    show WC _ _ _ _ _ _
    refine WC.seq ?_
    refine WC.seq ?_
    refine WC.region ?_
    refine WO2.op rfl (Ob.fieldAddr (k := 0) rfl rfl rfl rfl rfl rfl) rfl ?_
    refine WO2.op rfl (Ob.load rfl rfl (hs3.ld 2 rfl rfl)) rfl ?_
    refine WO.run 1 rfl ?_
    refine WO2.both rfl rfl (fun h65 => ?_) (fun h65 => ?_)
    · refine ⟨_, rfl, ?_⟩
      replace h65 := of_decide_eq_true h65
      refine WO.run 10 rfl ?_
      refine WO.nil ?_
      show WC _ _ _ _ _ _
      refine WC.cond rfl (fun _ => ?_) (fun hc => ?_)
      rotate_left
      · first | exact absurd hc (by decide) | (exfalso; simp_all; done)
      refine WC.seq ?_
      refine WC.region ?_
      refine WO.run 2 rfl ?_
      refine WO.nil ?_
      show WC _ _ _ _ _ _
      refine WC.ret ?_
      refine ⟨_, (res_tmp rfl (res_tmp rfl res_nil)), ?_⟩
      first
        | (have hx : ss.all setOk = false := all_not2 hy60 (by simp [setOk]; omega)
           rw [hx]
           exact ⟨rfl, hs3.none⟩)
        | (have hx : ss.all setOk = false := all_not2 hy60 (by simp [setOk, c75])
           rw [hx]
           exact ⟨rfl, hs3.none⟩)
        | (have hx : i = ss.length := by omega
           subst hx
           rw [List.take_length] at hall hout
           subst hout
           rw [hall]
           exact ⟨_, _, rfl, hs3.del 0 rfl rfl⟩)
    · refine ⟨_, rfl, ?_⟩
      replace h65 := of_decide_eq_false h65
      refine WO2.op rfl (Ob.fieldAddr (k := 0) rfl rfl rfl rfl rfl rfl) rfl ?_
      refine WO2.op rfl (Ob.load rfl rfl (hs3.ld 2 rfl rfl)) rfl ?_
      refine WO.run 2 rfl ?_
      refine WO2.both rfl rfl (fun h70 => ?_) (fun h70 => ?_)
      · refine ⟨_, rfl, ?_⟩
        replace h70 := of_decide_eq_true h70
        refine WO.run 5 rfl ?_
        refine WO.nil ?_
        show WC _ _ _ _ _ _
        refine WC.cond rfl (fun _ => ?_) (fun hc => ?_)
        rotate_left
        · first | exact absurd hc (by decide) | (exfalso; simp_all; done)
        refine WC.seq ?_
        refine WC.region ?_
        refine WO.run 2 rfl ?_
        refine WO.nil ?_
        show WC _ _ _ _ _ _
        refine WC.ret ?_
        refine ⟨_, (res_tmp rfl (res_tmp rfl res_nil)), ?_⟩
        first
          | (have hx : ss.all setOk = false := all_not2 hy60 (by simp [setOk]; omega)
             rw [hx]
             exact ⟨rfl, hs3.none⟩)
          | (have hx : ss.all setOk = false := all_not2 hy60 (by simp [setOk, c75])
             rw [hx]
             exact ⟨rfl, hs3.none⟩)
          | (have hx : i = ss.length := by omega
             subst hx
             rw [List.take_length] at hall hout
             subst hout
             rw [hall]
             exact ⟨_, _, rfl, hs3.del 0 rfl rfl⟩)
      · refine ⟨_, rfl, ?_⟩
        replace h70 := of_decide_eq_false h70
        refine WO2.op rfl (Ob.fieldAddr (k := 1) rfl rfl rfl rfl rfl rfl) rfl ?_
        refine WO2.op rfl (Ob.load rfl rfl (hs3.ld 2 rfl rfl)) rfl ?_
        refine WO2.call rfl rfl rfl rfl rfl ?_
        refine WF.mono (word_wf _ _) ?_
        rintro _ _ ⟨rfl, rfl⟩
        refine ⟨_, rfl, ?_⟩
        refine WO.run 2 rfl ?_
        refine WO.nil ?_
        show WC _ _ _ _ _ _
        refine WC.cond rfl (fun c75 => ?_) (fun c75 => ?_)
        · replace c75 := not_true_eq c75
          refine WC.seq ?_
          refine WC.region ?_
          refine WO.run 2 rfl ?_
          refine WO.nil ?_
          show WC _ _ _ _ _ _
          refine WC.ret ?_
          refine ⟨_, (res_tmp rfl (res_tmp rfl res_nil)), ?_⟩
          first
            | (have hx : ss.all setOk = false := all_not2 hy60 (by simp [setOk]; omega)
               rw [hx]
               exact ⟨rfl, hs3.none⟩)
            | (have hx : ss.all setOk = false := all_not2 hy60 (by simp [setOk, c75])
               rw [hx]
               exact ⟨rfl, hs3.none⟩)
            | (have hx : i = ss.length := by omega
               subst hx
               rw [List.take_length] at hall hout
               subst hout
               rw [hall]
               exact ⟨_, _, rfl, hs3.del 0 rfl rfl⟩)
        · replace c75 := not_false_eq c75
          have hw : 0 ≤ y60.val ∧ y60.val < 4294967296 := by simpa [word] using c75
          refine WC.skip ?_
          show WC _ _ _ _ _ _
          refine WC.draw (by kernel_rfl) ?_
          refine WD.run 1 rfl ?_
          refine WD2.op0 rfl rfl (Ob.fieldAddr (k := 0) rfl rfl rfl rfl rfl rfl) rfl ?_
          refine WD2.op1 rfl rfl (Ob.load rfl rfl (hs3.ld 2 rfl rfl)) rfl ?_
          refine WD2.call rfl rfl rfl rfl rfl ?_
          refine WF.mono (lay_wf2 _ _ _ 2 y60.id.toNat _ _ rfl (by omega) _ (hs3.hp1 (i := 1) rfl) (by omega) (by omega) (by omega)) ?_
          rintro _ τA ⟨pA, kA, rfl, hx79⟩
          have hs4 := hs3.set' (i := 1) rfl rfl hx79
          refine ⟨_, rfl, ?_⟩
          refine WD2.op0 rfl rfl (Ob.fieldAddr (k := 1) rfl rfl rfl rfl rfl rfl) rfl ?_
          refine WD2.op1 rfl rfl (Ob.load rfl rfl (hs4.ld 2 rfl rfl)) rfl ?_
          refine WD2.call rfl rfl rfl rfl rfl ?_
          refine WF.mono (lay_wf2 _ _ _ 4 y60.val.toNat _ _ rfl (by omega) _ (hs4.hp1 (i := 1) rfl) (by omega) (by simp only [List.length_append, layB_length]; omega) (by omega)) ?_
          rintro _ τB ⟨pB, kB, rfl, hx82⟩
          have hs5 := hs4.set' (i := 1) rfl rfl hx82
          refine ⟨_, rfl, ?_⟩
          refine WD.run 1 rfl ?_
          refine WD.nil ⟨reads_ok ⟨⟨.inl (by kernel_rfl), .inr (opR_load rfl (hs4.ld 2 rfl rfl)), .inr (opR_load rfl (hs3.ld 2 rfl rfl)), trivial⟩, ⟨.inl (by kernel_rfl), .inl (by kernel_rfl), .inr (opR_load rfl (hs3.ld 2 rfl rfl)), trivial⟩, trivial⟩, ?_⟩
          show WC _ _ _ _ _ _
          refine WC.region ?_
          refine WO2.val (v' := .int .i64 ((i + 1 : Nat) : Int)) rfl rfl (iv_wrap (by omega) (by omega)) rfl ?_
          refine WO.run 1 rfl ?_
          refine WO.nil ?_
          exact ⟨i + 1, _, _, _, rfl, ⟨hs5.del 2 rfl rfl, by omega, by rw [take_succ_at hy60, List.all_append, hall]; simp [setOk, c75]; omega, by rw [take_succ_at hy60, List.flatMap_append, ← hout]; simp [setB]⟩, by omega⟩
  · replace c59 := of_decide_eq_false c59
    refine WC.exit ?_
    show WC _ _ _ _ _ _
    refine WC.seq ?_
    refine WC.region ?_
    refine WO.run 3 rfl ?_
    refine WO.nil ?_
    show WC _ _ _ _ _ _
    refine WC.ret ?_
    refine ⟨_, (res_tmp rfl (res_tmp rfl res_nil)), ?_⟩
    first
      | (have hx : ss.all setOk = false := all_not2 hy60 (by simp [setOk]; omega)
         rw [hx]
         exact ⟨rfl, hs.none⟩)
      | (have hx : ss.all setOk = false := all_not2 hy60 (by simp [setOk, c75])
         rw [hx]
         exact ⟨rfl, hs.none⟩)
      | (have hx : i = ss.length := by omega
         subst hx
         rw [List.take_length] at hall hout
         subst hout
         rw [hall]
         exact ⟨_, _, rfl, hs.del 0 rfl rfl⟩)
end Go.Proofs.YtamplhegepgaeaaDoor
end
section
/- Walks of this layer's functions on the logical memory, part 7: a frame of settings is made; a first line; small letters. -/
open Go Go.LZ
namespace Go.Proofs.YtamplhegepgaeaaDoor
set_option maxRecDepth 10000
set_option linter.unusedSimpArgs false
set_option linter.unusedVariables false
theorem make_wf (ss : List Stg) (q : P3) (n k : Nat) (σ : LZ.H) (hss : RdL σ encT 2 q n k ss) (hn : n ≤ 1048576) :
    WF Tryd.prog ext 36 [.int .i64 4, .int .i64 0, .int .i64 0, .agg (bodyC q n k)] σ (fun v σ' => if ss.all setOk = true
      then ∃ p' k', v = .tuple [.agg [.int .i64 4, .int .i64 0, .int .i64 0, .slice p' (ss.flatMap setB).length k'], .int .i64 0] ∧ Hs [] σ σ' [At.bs 5 p' (ss.flatMap setB).length k' (ss.flatMap setB)]
      else v = .tuple [.agg [.int .i64 0, .int .i64 0, .int .i64 0, .slice none 0 0], .int .i64 1] ∧ Hs [] σ σ' []) := by
  refine WF.body rfl Tryd.func36 rfl rfl ?_
  have hs0 := Hs.nil σ
  have hlen := hss.len
  refine WC.seq ?_
  refine WC.region ?_
  refine WO.ex rfl (Ob.box hs0 rfl rfl rfl rfl fun _ => rfl) ?_
  rintro _ τ1 ⟨r7, rfl, hs1⟩
  refine ⟨_, rfl, ?_⟩
  clear hs0
  refine WO.ex rfl (Ob.alloc hs1 rfl rfl fun _ => rfl) ?_
  rintro _ τ2 ⟨r8, rfl, hs2⟩
  refine ⟨_, rfl, ?_⟩
  clear hs1
  refine WO.run 1 rfl ?_
  refine WO.nil ?_
  show WC _ _ _ _ _ _
  refine WC.seq ?_
  refine WC.region ?_
  refine WO.run 1 rfl ?_
  refine WO2.call rfl rfl rfl rfl rfl ?_
  refine WF.mono (padded_wf _) ?_
  rintro _ _ ⟨rfl, rfl⟩
  refine ⟨_, rfl, ?_⟩
  refine WO.run 6 rfl ?_
  refine WO.nil ?_
  show WC _ _ _ _ _ _
  refine WC.seq ?_
  refine WC.seq ?_
  refine WC.region ?_
  refine WO.run 16 rfl ?_
  refine WO2.call rfl rfl rfl rfl rfl ?_
  refine WF.mono (low_wf 0 _) ?_
  rintro _ _ ⟨rfl, rfl⟩
  refine ⟨_, rfl, ?_⟩
  refine WO.run 3 rfl ?_
  refine WO2.op rfl (Ob.fieldAddr (k := 1) rfl rfl rfl rfl rfl rfl) rfl ?_
  refine WO2.op rfl (Ob.load rfl rfl (hs2.ld 0 rfl rfl)) rfl ?_
  refine WO.run 3 rfl ?_
  refine WO2.op rfl (Ob.fieldAddr (k := 1) rfl rfl rfl rfl rfl rfl) rfl ?_
  refine WO2.op rfl (Ob.load rfl rfl (hs2.ld 0 rfl rfl)) rfl ?_
  refine WO.run 3 rfl ?_
  refine WO2.op rfl (Ob.fieldAddr (k := 1) rfl rfl rfl rfl rfl rfl) rfl ?_
  refine WO2.op rfl (Ob.load rfl rfl (hs2.ld 0 rfl rfl)) rfl ?_
  refine WO.run 6 rfl ?_
  refine WO.nil ?_
  show WC _ _ _ _ _ _
  refine WC.cond rfl (fun hc => ?_) (fun _ => ?_)
  · first | exact absurd hc (by decide) | (exfalso; simp_all; done)
  refine WC.skip ?_
  show WC _ _ _ _ _ _
  refine WC.seq ?_
  refine WC.region ?_
  refine WO.run 1 rfl ?_
  refine WO.nil ?_
  show WC _ _ _ _ _ _
  refine WC.seq ?_
  refine WC.seq ?_
  refine WC.region ?_
  refine WO.run 1 rfl ?_
  refine WO.nil ?_
  show WC _ _ _ _ _ _
  refine WC.cond rfl (fun hc => ?_) (fun _ => ?_)
  · first | exact absurd hc (by decide) | (exfalso; simp_all; done)
  refine WC.skip ?_
  show WC _ _ _ _ _ _
  refine WC.seq ?_
  refine WC.region ?_
  refine WO.run 3 rfl ?_
  refine WO2.op rfl (Ob.load rfl rfl (hs2.ld 0 rfl rfl)) rfl ?_
  refine WO2.call rfl rfl rfl rfl rfl ?_
  refine WF.mono (payload_wf ss q n k _ (hss.fr hs2.fr (by simp)) hn) ?_
  intro v τp hq
  rcases Bool.eq_false_or_eq_true (ss.all setOk) with hall | hall
  · rw [if_pos hall] at hq
    obtain ⟨p1, k1, rfl, hx⟩ := hq
    have hlb := setsB_length ss
    have hs3 := hs2.add' hx rfl
    refine ⟨_, rfl, ?_⟩
    refine WO.run 5 rfl ?_
    refine WO.nil ?_
    show WC _ _ _ _ _ _
    refine WC.seq ?_
    refine WC.seq ?_
    refine WC.region ?_
    refine WO.run 2 rfl ?_
    refine WO.nil ?_
    show WC _ _ _ _ _ _
    refine WC.cond rfl (fun hc => ?_) (fun _ => ?_)
    · first | exact absurd hc (by decide) | (exfalso; simp_all; done)
    refine WC.skip ?_
    show WC _ _ _ _ _ _
    refine WC.seq ?_
    refine WC.region ?_
    refine WO.run 1 rfl ?_
    refine WO2.op rfl (Ob.fieldAddr (k := 1) rfl rfl rfl rfl rfl rfl) rfl ?_
    refine WO2.op rfl (Ob.load rfl rfl (hs3.ld 0 rfl rfl)) rfl ?_
    refine WO.ex rfl (Ob.appZB (e := 5) (b := 1) (m := 0) hs3 2 rfl rfl rfl rfl rfl rfl rfl rfl rfl rfl (by omega) (by omega) fun _ _ => rfl) ?_
    rintro _ τ4 ⟨p80, k80, rfl, hs4⟩
    refine ⟨_, rfl, ?_⟩
    clear hs3
    refine WO.run 1 rfl ?_
    refine WO.nil ?_
    show WC _ _ _ _ _ _
    refine WC.seq ?_
    refine WC.seq ?_
    refine WC.region ?_
    refine WO.run 3 rfl ?_
    refine WO.nil ?_
    show WC _ _ _ _ _ _
    refine WC.cond rfl (fun c83 => ?_) (fun c83 => ?_)
    · replace c83 := of_decide_eq_true c83
      simp only [List.replicate_zero, List.append_nil] at c83
      omega
    · replace c83 := of_decide_eq_false c83
      refine WC.skip ?_
      show WC _ _ _ _ _ _
      refine WC.seq ?_
      refine WC.region ?_
      refine WO.run 5 rfl ?_
      refine WO.ex rfl (Ob.store hs4 1 rfl rfl rfl rfl rfl rfl rfl rfl) ?_
      rintro _ τ5 ⟨rfl, hs5⟩
      refine ⟨_, rfl, ?_⟩
      clear hs4
      refine WO.run 1 rfl ?_
      refine WO.nil ?_
      show WC _ _ _ _ _ _
      refine WC.ret ?_
      refine ⟨_, (res_cell rfl (hs5.ld 1 rfl rfl) (res_tmp rfl res_nil)), ?_⟩
      rw [hall]
      first
        | exact ⟨rfl, hs5.none⟩
        | (refine ⟨p80, k80, ?_, ?_⟩
           · simp only [List.replicate_zero, List.append_nil]; rfl
           · have hf := (hs5.del 0 rfl rfl).del 0 rfl rfl
             simpa only [List.replicate_zero, List.append_nil] using hf)
  · rw [if_neg (by simp [hall])] at hq
    obtain ⟨rfl, hx⟩ := hq
    have hs6 := hs2.add' hx rfl
    refine ⟨_, rfl, ?_⟩
    refine WO.run 5 rfl ?_
    refine WO.nil ?_
    show WC _ _ _ _ _ _
    refine WC.seq ?_
    refine WC.seq ?_
    refine WC.region ?_
    refine WO.run 2 rfl ?_
    refine WO.nil ?_
    show WC _ _ _ _ _ _
    refine WC.cond rfl (fun _ => ?_) (fun hc => ?_)
    rotate_left
    · first | exact absurd hc (by decide) | (exfalso; simp_all; done)
    refine WC.seq ?_
    refine WC.region ?_
    refine WO.run 1 rfl ?_
    refine WO.ex rfl (Ob.store hs6 1 rfl rfl rfl rfl rfl rfl rfl rfl) ?_
    rintro _ τ7 ⟨rfl, hs7⟩
    refine ⟨_, rfl, ?_⟩
    clear hs6
    refine WO.run 1 rfl ?_
    refine WO.nil ?_
    show WC _ _ _ _ _ _
    refine WC.ret ?_
    refine ⟨_, (res_cell rfl (hs7.ld 1 rfl rfl) (res_tmp rfl res_nil)), ?_⟩
    rw [hall]
    first
      | exact ⟨rfl, hs7.none⟩
      | (refine ⟨p80, k80, ?_, ?_⟩
         · simp only [List.replicate_zero, List.append_nil]; rfl
         · have hf := (hs7.del 0 rfl rfl).del 0 rfl rfl
           simpa only [List.replicate_zero, List.append_nil] using hf)
end Go.Proofs.YtamplhegepgaeaaDoor
end
section
/- Walks of this layer's functions on the logical memory, part 8: base64. -/
open Go Go.LZ
namespace Go.Proofs.YtamplhegepgaeaaDoor
set_option maxRecDepth 10000
set_option linter.unusedSimpArgs false
set_option linter.unusedVariables false
def letters : List UInt8 := [65, 66, 67, 68, 69, 70, 71, 72, 73, 74, 75, 76, 77, 78, 79, 80, 81, 82, 83, 84, 85, 86, 87, 88, 89, 90, 97, 98, 99, 100, 101, 102, 103, 104, 105, 106, 107, 108, 109, 110, 111, 112, 113, 114, 115, 116, 117, 118, 119, 120, 121, 122, 48, 49, 50, 51, 52, 53, 54, 55, 56, 57, 45, 95]
def letter (n : Nat) : UInt8 := letters.getD n 0
def emit (w b : Nat) : List UInt8 := if h : 6 ≤ b then letter (w / 2 ^ (b - 6) % 64) :: emit w (b - 6) else []
  termination_by b
theorem emit_ge {w b : Nat} (h : 6 ≤ b) : emit w b = letter (w / 2 ^ (b - 6) % 64) :: emit w (b - 6) := by rw [emit, dif_pos h]
theorem emit_lt {w b : Nat} (h : b < 6) : emit w b = [] := by rw [emit, dif_neg (by omega)]
def cstep (st : List UInt8 × Nat × Nat) (c : UInt8) : List UInt8 × Nat × Nat :=
  (st.1 ++ emit (st.2.1 * 256 + c.toNat) (st.2.2 + 8), (st.2.1 * 256 + c.toNat) % 2 ^ ((st.2.2 + 8) % 6), (st.2.2 + 8) % 6)
def codeR (bs : List UInt8) : List UInt8 × Nat × Nat := bs.foldl cstep ([], 0, 0)
def codeE (r : List UInt8 × Nat × Nat) : List UInt8 := if 0 < r.2.2 then r.1 ++ [letter (r.2.1 * 2 ^ (6 - r.2.2) % 64)] else r.1
def codeL (bs : List UInt8) : List UInt8 := codeE (codeR bs)
theorem pow_le_of {b c : Nat} (h : b ≤ c) : 2 ^ b ≤ 2 ^ c := Nat.pow_le_pow_right (by omega) h
theorem code_wf (bs : List UInt8) (p : P3) (n k : Nat) (σ : LZ.H) (hb : RdB σ p n k bs) (hn : n ≤ 16777216) :
    WF Tryd.prog ext 32 [.slice p n k] σ (fun v σ' => v = .str (codeL bs) ∧ Hs [] σ σ' []) := by
  refine WF.body rfl Tryd.func32 rfl rfl ?_
  have hs0 := Hs.nil σ
  have hlen := hb.len
  refine WC.seq ?_
  refine WC.region ?_
  refine WO.run 1 rfl ?_
  refine WO.nil ?_
  show WC _ _ _ _ _ _
  refine WC.seq ?_
  refine WC.region ?_
  refine WO.run 1 rfl ?_
  refine WO.nil ?_
  show WC _ _ _ _ _ _
  refine WC.seq ?_
  refine WC.region ?_
  refine WO.run 2 rfl ?_
  refine WO.nil ?_
  show WC _ _ _ _ _ _
  refine WC.seq ?_
  refine WC.seq ?_
  refine WC.region ?_
  refine WO.run 3 rfl ?_
  refine WO.nil ?_
  show WC _ _ _ _ _ _
  refine WC.block ?_
  have hs9 := hs0.nilB 5 rfl
  refine WC.lp6 (fun (i : Nat) (out : B) (p1 : P3) (k1 : Nat) (w : Nat) (b : Nat) => [(3, .slice p1 out.length k1), (4, .int .i64 (w : Int)), (5, .int .i64 (b : Int)), (10, .int .i64 (i : Int))]) [7, 11, 12, 13, 14, 15, 16, 17, 18, 19, 20, 21, 22, 23, 24, 25, 26, 27, 28, 29, 30, 31, 32, 33, 34, 35, 36, 37, 38, 39] (fun (i : Nat) (out : B) (p1 : P3) (k1 : Nat) (w : Nat) (b : Nat) => fun τ => Hs [] σ τ [At.bs 5 p1 out.length k1 out] ∧ i ≤ n ∧ (bs.take i).foldl cstep ([], 0, 0) = (out, w, b) ∧ b < 6 ∧ w < 2 ^ b ∧ out.length ≤ 2 * i) (fun (i : Nat) (out : B) (p1 : P3) (k1 : Nat) (w : Nat) (b : Nat) => n - i) (0) ([]) (none) (0) (0) (0) (fun _ _ _ _ _ _ _ => rfl) rfl ⟨hs9, by omega, rfl, by omega, by omega, by simp⟩ ?_
  rintro i out p1 k1 w b g τ ⟨hs, hi, hrun, hb6, hw, hol⟩
  have hw32 : w < 32 := Nat.lt_of_lt_of_le hw (pow_le_of (by omega : b ≤ 5))
  refine WC.seq ?_
  refine WC.region ?_
  refine WO.run 1 rfl ?_
  refine WO.nil ?_
  show WC _ _ _ _ _ _
  refine WC.seq ?_
  refine WC.cond rfl (fun c11 => ?_) (fun c11 => ?_)
  · replace c11 := of_decide_eq_true c11
    refine WC.skip ?_
    show WC _ _ _ _ _ _
    refine WC.seq ?_
    refine WC.block ?_
    refine WC.seq ?_
    refine WC.region ?_
    refine WO.ex rfl (Ob.indexN (RdB.toL hb) rfl rfl rfl rfl rfl (by omega)) ?_
    rintro _ _ ⟨rfl, r12, o12, y12, rfl, hy12, hr12, hd12⟩
    refine ⟨_, rfl, ?_⟩
    have hy256 := y12.toNat_lt
    refine WO2.op rfl (Ob.load rfl rfl (hd12.ldf hs.fr List.not_mem_nil (k := 0) rfl rfl)) rfl ?_
    refine WO.run 1 rfl ?_
    refine WO.nil ?_
    show WC _ _ _ _ _ _
    refine WC.seq ?_
    refine WC.region ?_
    refine WO.run 1 rfl ?_
    refine WO2.val (v' := .int .i64 ((w * 2 ^ 8 : Nat) : Int)) rfl rfl (iv_wrap (by show (w : Int) * 2 ^ 8 = _; omega) (by omega)) rfl ?_
    refine WO.run 1 rfl ?_
    refine WO2.val (v' := .int .i64 (y12.toNat : Int)) rfl rfl (iv_wrap rfl (by omega)) rfl ?_
    refine WO2.val (v' := .int .i64 ((w * 2 ^ 8 + y12.toNat : Nat) : Int)) rfl rfl (iv_or (by omega) (by omega) (or_add (k := 8) hy256)) rfl ?_
    refine WO.run 1 rfl ?_
    refine WO2.val (v' := .int .i64 ((b + 8 : Nat) : Int)) rfl rfl (iv_wrap (by omega) (by omega)) rfl ?_
    refine WO.run 2 rfl ?_
    refine WO.nil ?_
    show WC _ _ _ _ _ _
    refine WC.seq ?_
    refine WC.block ?_
    refine WC.lp4 (fun (out1 : B) (p2 : P3) (k2 : Nat) (b1 : Nat) => [(3, .slice p2 out1.length k2), (5, .int .i64 (b1 : Int))]) [21, 22, 23, 24, 25, 26, 27, 28, 29, 30, 31, 32, 33] (fun (out1 : B) (p2 : P3) (k2 : Nat) (b1 : Nat) => fun τ => Hs [] σ τ [At.bs 5 p2 out1.length k2 out1] ∧ out1 ++ emit (w * 256 + y12.toNat) b1 = out ++ emit (w * 256 + y12.toNat) (b + 8) ∧ b1 % 6 = (b + 8) % 6 ∧ b1 ≤ 13 ∧ out1.length * 6 + b1 = out.length * 6 + (b + 8)) (fun (out1 : B) (p2 : P3) (k2 : Nat) (b1 : Nat) => b1) (out) (p1) (k1) (b + 8) (fun _ _ _ _ _ => rfl) rfl ⟨hs, rfl, rfl, by omega, rfl⟩ ?_
    rintro out1 p2 k2 b1 g τ ⟨hs, hem, hmod, hb13, hcnt⟩
    refine WC.seq ?_
    refine WC.seq ?_
    refine WC.region ?_
    refine WO.run 2 rfl ?_
    refine WO.nil ?_
    show WC _ _ _ _ _ _
    refine WC.cond rfl (fun c22 => ?_) (fun c22 => ?_)
    · replace c22 := of_decide_eq_true c22
      refine WC.skip ?_
      show WC _ _ _ _ _ _
      refine WC.seq ?_
      refine WC.block ?_
      refine WC.region ?_
      refine WO.run 3 rfl ?_
      refine WO2.val (v' := .int .i64 ((b1 - 6 : Nat) : Int)) rfl rfl (iv_wrap (by omega) (by omega)) rfl ?_
      refine WO2.op rfl (Ob.shrN rfl rfl rfl (by simp only [IntKind.bits]; omega)) rfl ?_
      refine WO2.val (v' := .int .i64 (((w * 2 ^ 8 + y12.toNat) / 2 ^ (b1 - 6) % 64 : Nat) : Int)) rfl rfl (iv_and (by have := Nat.div_le_self (w * 2 ^ 8 + y12.toNat) (2 ^ (b1 - 6)); omega) (by decide) (Nat.and_two_pow_sub_one_eq_mod _ 6)) rfl ?_
      first
        | refine WO3.indexStr rfl rfl rfl rfl rfl (Nat.mod_lt _ (by decide)) rfl ?_
        | refine WO2.indexStr rfl rfl rfl rfl rfl (Nat.mod_lt _ (by decide)) rfl ?_
      refine WO.ex rfl (Ob.buildSlice (e := 5) (z := 0) hs rfl rfl rfl rfl rfl rfl fun _ => rfl) ?_
      rintro _ τ1 ⟨p32, rfl, hs1⟩
      refine ⟨_, rfl, ?_⟩
      refine WO.ex rfl (Ob.appB (e := 5) (b := 1) (cs := [letter ((w * 2 ^ 8 + y12.toNat) / 2 ^ (b1 - 6) % 64)]) hs1 0 rfl rfl rfl rfl rfl rfl (Rd.src (hs1.rd (i := 1) rfl)) (by first | rfl | exact RdB.len (hs1.rd (i := 1) rfl)) (by simp only [List.length_append, List.length_cons, List.length_nil]; omega) fun _ _ => rfl) ?_
      rintro _ τ2 ⟨p33, k33, rfl, hs2⟩
      refine ⟨_, rfl, ?_⟩
      clear hs1
      replace hs2 := hs2.del 1 rfl rfl
      refine WO.run 1 rfl ?_
      refine WO.nil ?_
      show WC _ _ _ _ _ _
      refine WC.region ?_
      refine WO.run 1 rfl ?_
      refine WO2.val (v' := .int .i64 ((b1 - 6 : Nat) : Int)) rfl rfl (iv_wrap (by omega) (by omega)) rfl ?_
      refine WO.run 1 rfl ?_
      refine WO.nil ?_
      exact ⟨_, _, _, b1 - 6, rfl, ⟨hs2, by rw [← hem, emit_ge (show 6 ≤ b1 by omega)]; simp, by omega, by omega, by simp only [List.length_append, List.length_cons, List.length_nil]; omega⟩, by omega⟩
    · replace c22 := of_decide_eq_false c22
      have hb6' : b1 < 6 := by omega
      have hpow := pow_le_of (show b1 ≤ 5 by omega)
      refine WC.exit ?_
      show WC _ _ _ _ _ _
      refine WC.region ?_
      refine WO.run 2 rfl ?_
      refine WO2.val (v' := .int .i64 ((2 ^ b1 : Nat) : Int)) rfl (Ob.shl1N rfl rfl rfl (by simp only [IntKind.bits]; omega)) (iv_wrap rfl (by omega)) rfl ?_
      refine WO2.val (v' := .int .i64 ((2 ^ b1 - 1 : Nat) : Int)) rfl rfl (iv_wrap (by have := Nat.two_pow_pos b1; omega) (by omega)) rfl ?_
      refine WO2.val (v' := .int .i64 (((w * 2 ^ 8 + y12.toNat) % 2 ^ b1 : Nat) : Int)) rfl rfl (iv_and (by omega) (by omega) (Nat.and_two_pow_sub_one_eq_mod _ _)) rfl ?_
      refine WO.run 1 rfl ?_
      refine WO.nil ?_
      show WC _ _ _ _ _ _
      refine WC.region ?_
      refine WO2.val (v' := .int .i64 ((i + 1 : Nat) : Int)) rfl rfl (iv_wrap (by omega) (by omega)) rfl ?_
      refine WO.run 1 rfl ?_
      refine WO.nil ?_
      refine ⟨i + 1, out1, p2, k2, _, b1, rfl, ⟨hs, by omega, ?_, by omega, Nat.mod_lt _ (Nat.two_pow_pos _), by omega⟩, by omega⟩
      rw [take_succ_at hy12, List.foldl_append, hrun]
      have e1 : (b + 8) % 6 = b1 := by omega
      rw [emit_lt hb6', List.append_nil] at hem
      simp only [List.foldl_cons, List.foldl_nil, cstep, e1]
      rw [hem]
  · replace c11 := of_decide_eq_false c11
    refine WC.exit ?_
    show WC _ _ _ _ _ _
    refine WC.seq ?_
    refine WC.seq ?_
    refine WC.region ?_
    refine WO.run 2 rfl ?_
    refine WO.nil ?_
    show WC _ _ _ _ _ _
    refine WC.cond rfl (fun c41 => ?_) (fun c41 => ?_)
    · replace c41 := of_decide_eq_true c41
      refine WC.region ?_
      refine WO.run 3 rfl ?_
      refine WO2.val (v' := .int .i64 ((6 - b : Nat) : Int)) rfl rfl (iv_wrap (by omega) (by omega)) rfl ?_
      refine WO2.val (v' := .int .i64 ((w * 2 ^ (6 - b) : Nat) : Int)) rfl (Ob.shlN rfl rfl rfl (by simp only [IntKind.bits]; omega)) (iv_wrap rfl (by have := pow_le_of (show 6 - b ≤ 6 by omega); have := Nat.mul_le_mul (Nat.le_of_lt hw32) this; omega)) rfl ?_
      refine WO2.val (v' := .int .i64 ((w * 2 ^ (6 - b) % 64 : Nat) : Int)) rfl rfl (iv_and (by have := pow_le_of (show 6 - b ≤ 6 by omega); have := Nat.mul_le_mul (Nat.le_of_lt hw32) this; omega) (by decide) (Nat.and_two_pow_sub_one_eq_mod _ 6)) rfl ?_
      first
        | refine WO3.indexStr rfl rfl rfl rfl rfl (Nat.mod_lt _ (by decide)) rfl ?_
        | refine WO2.indexStr rfl rfl rfl rfl rfl (Nat.mod_lt _ (by decide)) rfl ?_
      refine WO.ex rfl (Ob.buildSlice (e := 5) (z := 0) hs rfl rfl rfl rfl rfl rfl fun _ => rfl) ?_
      rintro _ τ3 ⟨p49, rfl, hs3⟩
      refine ⟨_, rfl, ?_⟩
      refine WO.ex rfl (Ob.appB (e := 5) (b := 1) (cs := [letter (w * 2 ^ (6 - b) % 64)]) hs3 0 rfl rfl rfl rfl rfl rfl (Rd.src (hs3.rd (i := 1) rfl)) (by first | rfl | exact RdB.len (hs3.rd (i := 1) rfl)) (by simp only [List.length_append, List.length_cons, List.length_nil]; omega) fun _ _ => rfl) ?_
      rintro _ τ4 ⟨p50, k50, rfl, hs4⟩
      refine ⟨_, rfl, ?_⟩
      clear hs3
      replace hs4 := hs4.del 1 rfl rfl
      refine WO.run 1 rfl ?_
      refine WO.nil ?_
      show WC _ _ _ _ _ _
      refine WC.seq ?_
      refine WC.region ?_
      refine WO.run 1 rfl ?_
      refine WO2.op rfl (Ob.toStr (hs4.rd (i := 0) rfl) rfl rfl rfl rfl rfl) rfl ?_
      refine WO.run 1 rfl ?_
      refine WO.nil ?_
      show WC _ _ _ _ _ _
      refine WC.ret ?_
      refine ⟨_, (res_tmp rfl res_nil), ?_⟩
      refine ⟨?_, hs4.none⟩
      have hx : i = bs.length := by omega
      subst hx
      rw [List.take_length] at hrun
      simp only [outL, codeL, codeR, hrun, codeE]
      first
        | (rw [if_pos (by omega)]; done)
        | (rw [if_neg (by omega)]; done)
    · replace c41 := of_decide_eq_false c41
      refine WC.skip ?_
      show WC _ _ _ _ _ _
      refine WC.seq ?_
      refine WC.region ?_
      refine WO.run 1 rfl ?_
      refine WO2.op rfl (Ob.toStr (hs.rd (i := 0) rfl) rfl rfl rfl rfl rfl) rfl ?_
      refine WO.run 1 rfl ?_
      refine WO.nil ?_
      show WC _ _ _ _ _ _
      refine WC.ret ?_
      refine ⟨_, (res_tmp rfl res_nil), ?_⟩
      refine ⟨?_, hs.none⟩
      have hx : i = bs.length := by omega
      subst hx
      rw [List.take_length] at hrun
      simp only [outL, codeL, codeR, hrun, codeE]
      first
        | (rw [if_pos (by omega)]; done)
        | (rw [if_neg (by omega)]; done)
end Go.Proofs.YtamplhegepgaeaaDoor
end
section
/- Walks of this layer's functions on the logical memory, part 9: base64 is read. -/
open Go Go.LZ
namespace Go.Proofs.YtamplhegepgaeaaDoor
set_option maxRecDepth 10000
set_option linter.unusedSimpArgs false
set_option linter.unusedVariables false
theorem indexByte_range : ∀ (l : List UInt8) (c : UInt8), Lib.indexByte l c = -1 ∨ (0 ≤ Lib.indexByte l c ∧ Lib.indexByte l c < l.length)
  | [], c => .inl rfl
  | b :: l, c => by
    have ih := indexByte_range l c
    simp only [Lib.indexByte]
    split
    · right; simp
    · split
      · exact .inl rfl
      · rename_i h1 h2
        have : Lib.indexByte l c ≠ -1 := by simpa using h2
        right
        simp only [List.length_cons]
        omega
def dstep (st : List UInt8 × Nat × Nat) (c : UInt8) : Option (List UInt8 × Nat × Nat) :=
  if Lib.indexByte letters c < 0 then none
  else if 8 ≤ st.2.2 + 6 then some (st.1 ++ [UInt8.ofNat ((st.2.1 * 64 + (Lib.indexByte letters c).toNat) / 2 ^ (st.2.2 + 6 - 8))], (st.2.1 * 64 + (Lib.indexByte letters c).toNat) % 2 ^ (st.2.2 + 6 - 8), st.2.2 + 6 - 8)
  else some (st.1, (st.2.1 * 64 + (Lib.indexByte letters c).toNat) % 2 ^ (st.2.2 + 6), st.2.2 + 6)
def decodeL (s : List UInt8) : Option (List UInt8) := match runL dstep ([], 0, 0) s with
  | none => none
  | some (out, w, _) => if s.length % 4 = 1 ∨ w ≠ 0 then none else some out
theorem decode_wf (s : List UInt8) (hs : s.length ≤ 16777216) (σ : LZ.H) :
    WF Tryd.prog ext 30 [.str s] σ (fun v σ' => match decodeL s with
      | none => v = .tuple [.slice none 0 0, .int .i64 4] ∧ Hs [] σ σ' []
      | some out => ∃ p' k', v = .tuple [.slice p' out.length k', .int .i64 0] ∧ Hs [] σ σ' [At.bs 5 p' out.length k' out]) := by
  refine WF.body rfl Tryd.func30 rfl rfl ?_
  have hs0 := Hs.nil σ
  refine WC.seq ?_
  refine WC.region ?_
  refine WO.run 2 rfl ?_
  refine WO.nil ?_
  show WC _ _ _ _ _ _
  refine WC.seq ?_
  refine WC.region ?_
  refine WO.run 1 rfl ?_
  refine WO.nil ?_
  show WC _ _ _ _ _ _
  refine WC.seq ?_
  refine WC.region ?_
  refine WO.run 2 rfl ?_
  refine WO.nil ?_
  show WC _ _ _ _ _ _
  refine WC.seq ?_
  refine WC.seq ?_
  refine WC.region ?_
  refine WO.run 3 rfl ?_
  refine WO.nil ?_
  show WC _ _ _ _ _ _
  refine WC.block ?_
  have hs9 := hs0.nilB 5 rfl
  refine WC.lp6 (fun (i : Nat) (out : B) (p1 : P3) (k1 : Nat) (w : Nat) (b : Nat) => [(4, .slice p1 out.length k1), (5, .int .i64 (w : Int)), (6, .int .i64 (b : Int)), (11, .int .i64 (i : Int))]) [2, 3, 7, 8, 12, 13, 14, 15, 16, 17, 18, 19, 20, 21, 22, 23, 24, 25, 26, 27, 28, 29, 30, 31, 32, 33, 34, 35, 36, 37, 38, 39, 40, 41, 42] (fun (i : Nat) (out : B) (p1 : P3) (k1 : Nat) (w : Nat) (b : Nat) => fun τ => Hs [] σ τ [At.bs 5 p1 out.length k1 out] ∧ i ≤ s.length ∧ runL dstep ([], 0, 0) (s.take i) = some (out, w, b) ∧ b < 8 ∧ w < 2 ^ b ∧ out.length ≤ i) (fun (i : Nat) (out : B) (p1 : P3) (k1 : Nat) (w : Nat) (b : Nat) => s.length - i) (0) ([]) (none) (0) (0) (0) (fun _ _ _ _ _ _ _ => rfl) rfl ⟨hs9, by omega, rfl, by omega, by omega, by simp⟩ ?_
  rintro i out p1 k1 w b g τ ⟨hss, hi, hrun, hb8, hw, hol⟩
  have hw128 : w < 128 := Nat.lt_of_lt_of_le hw (pow_le_of (by omega : b ≤ 7))
  refine WC.seq ?_
  refine WC.region ?_
  refine WO.run 1 rfl ?_
  refine WO.nil ?_
  show WC _ _ _ _ _ _
  refine WC.seq ?_
  refine WC.cond rfl (fun c12 => ?_) (fun c12 => ?_)
  · replace c12 := of_decide_eq_true c12
    refine WC.skip ?_
    show WC _ _ _ _ _ _
    refine WC.seq ?_
    refine WC.block ?_
    refine WC.seq ?_
    refine WC.region ?_
    refine WO.run 2 rfl ?_
    refine WO.nil ?_
    show WC _ _ _ _ _ _
    refine WC.seq ?_
    refine WC.region ?_
    refine WO.run 2 rfl ?_
    first
      | refine WO3.indexStr rfl rfl rfl rfl rfl (by omega) rfl ?_
      | refine WO2.indexStr rfl rfl rfl rfl rfl (by omega) rfl ?_
    refine WO2.call rfl rfl rfl rfl rfl ?_
    have hsi : s[i]? = some (s.getD i 0) := by simp [show i < s.length by omega]
    refine WF.mono (indexByte_wf letters (s.getD i 0) _) ?_
    rintro _ _ ⟨rfl, rfl⟩
    refine ⟨_, rfl, ?_⟩
    refine WO.run 1 rfl ?_
    refine WO.nil ?_
    show WC _ _ _ _ _ _
    refine WC.seq ?_
    refine WC.seq ?_
    refine WC.region ?_
    refine WO.run 2 rfl ?_
    refine WO.nil ?_
    show WC _ _ _ _ _ _
    refine WC.cond rfl (fun c19 => ?_) (fun c19 => ?_)
    · replace c19 := of_decide_eq_true c19
      refine WC.seq ?_
      refine WC.region ?_
      refine WO.run 2 rfl ?_
      refine WO.nil ?_
      show WC _ _ _ _ _ _
      refine WC.ret ?_
      refine ⟨_, (res_tmp rfl (res_tmp rfl res_nil)), ?_⟩
      first
        | (have hx : decodeL s = none := by
             unfold decodeL
             rw [runL_none hrun hsi (by simp only [dstep]; rw [if_pos c19])]
           rw [hx]
           exact ⟨rfl, hss.none⟩)
        | (have hx : decodeL s = none := by
             unfold decodeL
             rw [runL_all hrun (by omega)]
             simp only
             rw [if_pos (.inl (by omega))]
           rw [hx]
           exact ⟨rfl, hss.none⟩)
        | (have hx : decodeL s = none := by
             unfold decodeL
             rw [runL_all hrun (by omega)]
             simp only
             rw [if_pos (.inr (by omega))]
           rw [hx]
           exact ⟨rfl, hss.none⟩)
        | (have hx : decodeL s = some out := by
             unfold decodeL
             rw [runL_all hrun (by omega)]
             simp only
             rw [if_neg (by omega)]
           rw [hx]
           exact ⟨_, _, rfl, hss⟩)
    · replace c19 := of_decide_eq_false c19
      have hm64 := indexByte_range letters (s.getD i 0)
      obtain ⟨m, hm⟩ := Int.eq_ofNat_of_zero_le (show 0 ≤ Lib.indexByte letters (s.getD i 0) by omega)
      have hmm : m < 64 := by
        have e : letters.length = 64 := rfl
        rw [e] at hm64
        omega
      rw [hm]
      refine WC.skip ?_
      show WC _ _ _ _ _ _
      refine WC.seq ?_
      refine WC.region ?_
      refine WO.run 1 rfl ?_
      refine WO2.val (v' := .int .i64 ((w * 2 ^ 6 : Nat) : Int)) rfl rfl (iv_wrap (by show (w : Int) * 2 ^ 6 = _; omega) (by omega)) rfl ?_
      refine WO.run 1 rfl ?_
      refine WO2.val (v' := .int .i64 ((w * 2 ^ 6 + m : Nat) : Int)) rfl rfl (iv_or (by omega) (by omega) (or_add (k := 6) hmm)) rfl ?_
      refine WO.run 1 rfl ?_
      refine WO2.val (v' := .int .i64 ((b + 6 : Nat) : Int)) rfl rfl (iv_wrap (by omega) (by omega)) rfl ?_
      refine WO.run 2 rfl ?_
      refine WO.nil ?_
      show WC _ _ _ _ _ _
      refine WC.jn4 (fun (out1 : B) (p2 : P3) (k2 : Nat) (b1 : Nat) => [(4, .slice p2 out1.length k2), (6, .int .i64 (b1 : Int))]) [26, 27, 28, 29, 30, 31, 32, 33, 34, 35, 36] (fun (out1 : B) (p2 : P3) (k2 : Nat) (b1 : Nat) => fun τ => Hs [] σ τ [At.bs 5 p2 out1.length k2 out1] ∧ b1 < 8 ∧ out1.length ≤ i + 1 ∧ dstep (out, w, b) (s.getD i 0) = some (out1, (w * 2 ^ 6 + m) % 2 ^ b1, b1)) (fun _ _ _ _ _ => rfl) ?_ ?_
      · refine WC.seq ?_
        refine WC.region ?_
        refine WO.run 2 rfl ?_
        refine WO.nil ?_
        show WC _ _ _ _ _ _
        refine WC.cond rfl (fun c27 => ?_) (fun c27 => ?_)
        · replace c27 := of_decide_eq_true c27
          refine WC.seq ?_
          refine WC.region ?_
          refine WO.run 1 rfl ?_
          refine WO2.val (v' := .int .i64 ((b + 6 - 8 : Nat) : Int)) rfl rfl (iv_wrap (by omega) (by omega)) rfl ?_
          refine WO.run 1 rfl ?_
          refine WO.nil ?_
          show WC _ _ _ _ _ _
          refine WC.region ?_
          refine WO.run 3 rfl ?_
          refine WO2.op rfl (Ob.shrN rfl rfl rfl (by simp only [IntKind.bits]; omega)) rfl ?_
          refine WO2.val (v' := .int .u8 ((UInt8.ofNat ((w * 2 ^ 6 + m) / 2 ^ (b + 6 - 8))).toNat : Int)) rfl rfl (u8_wrap rfl) rfl ?_
          refine WO.ex rfl (Ob.buildSlice (e := 5) (z := 0) hss rfl rfl rfl rfl rfl rfl fun _ => rfl) ?_
          rintro _ τ1 ⟨p35, rfl, hs1⟩
          refine ⟨_, rfl, ?_⟩
          refine WO.ex rfl (Ob.appB (e := 5) (b := 1) (cs := [UInt8.ofNat ((w * 2 ^ 6 + m) / 2 ^ (b + 6 - 8))]) hs1 0 rfl rfl rfl rfl rfl rfl (Rd.src (hs1.rd (i := 1) rfl)) (by first | rfl | exact RdB.len (hs1.rd (i := 1) rfl)) (by simp only [List.length_append, List.length_cons, List.length_nil]; omega) fun _ _ => rfl) ?_
          rintro _ τ2 ⟨p36, k36, rfl, hs2⟩
          refine ⟨_, rfl, ?_⟩
          clear hs1
          replace hs2 := hs2.del 1 rfl rfl
          refine WO.run 1 rfl ?_
          refine WO.nil ?_
          first
            | exact ⟨_, _, _, b + 6 - 8, rfl, hs2, by omega, by simp; omega, by simp only [dstep]; rw [if_neg c19, if_pos (by omega), hm, Int.toNat_natCast]⟩
            | exact ⟨_, _, _, b + 6, rfl, hs2, by omega, by omega, by simp only [dstep]; rw [if_neg c19, if_neg (by omega), hm, Int.toNat_natCast]⟩
        · replace c27 := of_decide_eq_false c27
          refine WC.skip ?_
          first
            | exact ⟨_, _, _, b + 6 - 8, rfl, hss, by omega, by simp; omega, by simp only [dstep]; rw [if_neg c19, if_pos (by omega), hm, Int.toNat_natCast]⟩
            | exact ⟨_, _, _, b + 6, rfl, hss, by omega, by omega, by simp only [dstep]; rw [if_neg c19, if_neg (by omega), hm, Int.toNat_natCast]⟩
      rintro out1 p2 k2 b1 g τ ⟨hsj, hb18, hol1, hst⟩
      have hpow := pow_le_of (show b1 ≤ 7 by omega)
      refine WC.region ?_
      refine WO.run 2 rfl ?_
      refine WO2.val (v' := .int .i64 ((2 ^ b1 : Nat) : Int)) rfl (Ob.shl1N rfl rfl rfl (by simp only [IntKind.bits]; omega)) (iv_wrap rfl (by omega)) rfl ?_
      refine WO2.val (v' := .int .i64 ((2 ^ b1 - 1 : Nat) : Int)) rfl rfl (iv_wrap (by have := Nat.two_pow_pos b1; omega) (by omega)) rfl ?_
      refine WO2.val (v' := .int .i64 (((w * 2 ^ 6 + m) % 2 ^ b1 : Nat) : Int)) rfl rfl (iv_and (by omega) (by omega) (Nat.and_two_pow_sub_one_eq_mod _ _)) rfl ?_
      refine WO.run 1 rfl ?_
      refine WO.nil ?_
      show WC _ _ _ _ _ _
      refine WC.region ?_
      refine WO2.val (v' := .int .i64 ((i + 1 : Nat) : Int)) rfl rfl (iv_wrap (by omega) (by omega)) rfl ?_
      refine WO.run 1 rfl ?_
      refine WO.nil ?_
      exact ⟨i + 1, out1, p2, k2, _, b1, rfl, ⟨hsj, by omega, runL_take hrun hsi hst, by omega, Nat.mod_lt _ (Nat.two_pow_pos _), by omega⟩, by omega⟩
  · replace c12 := of_decide_eq_false c12
    refine WC.exit ?_
    show WC _ _ _ _ _ _
    refine WC.seq ?_
    refine WC.seq ?_
    refine WC.region ?_
    refine WO.run 2 rfl ?_
    refine WO2.val (v' := .int .i64 ((s.length % 4 : Nat) : Int)) rfl rfl rfl rfl ?_
    refine WO.run 1 rfl ?_
    refine WO2.both rfl rfl (fun h47 => ?_) (fun h47 => ?_)
    · refine ⟨_, rfl, ?_⟩
      replace h47 := eq_of_beq h47
      refine WO.run 3 rfl ?_
      refine WO.nil ?_
      show WC _ _ _ _ _ _
      refine WC.cond rfl (fun _ => ?_) (fun hc => ?_)
      rotate_left
      · first | exact absurd hc (by decide) | (exfalso; simp_all; done)
      refine WC.seq ?_
      refine WC.region ?_
      refine WO.run 2 rfl ?_
      refine WO.nil ?_
      show WC _ _ _ _ _ _
      refine WC.ret ?_
      refine ⟨_, (res_tmp rfl (res_tmp rfl res_nil)), ?_⟩
      first
        | (have hx : decodeL s = none := by
             unfold decodeL
             rw [runL_none hrun hsi (by simp only [dstep]; rw [if_pos c19])]
           rw [hx]
           exact ⟨rfl, hss.none⟩)
        | (have hx : decodeL s = none := by
             unfold decodeL
             rw [runL_all hrun (by omega)]
             simp only
             rw [if_pos (.inl (by omega))]
           rw [hx]
           exact ⟨rfl, hss.none⟩)
        | (have hx : decodeL s = none := by
             unfold decodeL
             rw [runL_all hrun (by omega)]
             simp only
             rw [if_pos (.inr (by omega))]
           rw [hx]
           exact ⟨rfl, hss.none⟩)
        | (have hx : decodeL s = some out := by
             unfold decodeL
             rw [runL_all hrun (by omega)]
             simp only
             rw [if_neg (by omega)]
           rw [hx]
           exact ⟨_, _, rfl, hss⟩)
    · refine ⟨_, rfl, ?_⟩
      replace h47 := ne_of_beq_false h47
      refine WO.run 3 rfl ?_
      refine WO.nil ?_
      show WC _ _ _ _ _ _
      refine WC.cond rfl (fun c50 => ?_) (fun c50 => ?_)
      · replace c50 := bne_iff_ne.1 c50
        refine WC.seq ?_
        refine WC.region ?_
        refine WO.run 2 rfl ?_
        refine WO.nil ?_
        show WC _ _ _ _ _ _
        refine WC.ret ?_
        refine ⟨_, (res_tmp rfl (res_tmp rfl res_nil)), ?_⟩
        first
          | (have hx : decodeL s = none := by
               unfold decodeL
               rw [runL_none hrun hsi (by simp only [dstep]; rw [if_pos c19])]
             rw [hx]
             exact ⟨rfl, hss.none⟩)
          | (have hx : decodeL s = none := by
               unfold decodeL
               rw [runL_all hrun (by omega)]
               simp only
               rw [if_pos (.inl (by omega))]
             rw [hx]
             exact ⟨rfl, hss.none⟩)
          | (have hx : decodeL s = none := by
               unfold decodeL
               rw [runL_all hrun (by omega)]
               simp only
               rw [if_pos (.inr (by omega))]
             rw [hx]
             exact ⟨rfl, hss.none⟩)
          | (have hx : decodeL s = some out := by
               unfold decodeL
               rw [runL_all hrun (by omega)]
               simp only
               rw [if_neg (by omega)]
             rw [hx]
             exact ⟨_, _, rfl, hss⟩)
      · replace c50 := eq_of_bne_false c50
        refine WC.skip ?_
        show WC _ _ _ _ _ _
        refine WC.seq ?_
        refine WC.region ?_
        refine WO.run 3 rfl ?_
        refine WO.nil ?_
        show WC _ _ _ _ _ _
        refine WC.ret ?_
        refine ⟨_, (res_tmp rfl (res_tmp rfl res_nil)), ?_⟩
        first
          | (have hx : decodeL s = none := by
               unfold decodeL
               rw [runL_none hrun hsi (by simp only [dstep]; rw [if_pos c19])]
             rw [hx]
             exact ⟨rfl, hss.none⟩)
          | (have hx : decodeL s = none := by
               unfold decodeL
               rw [runL_all hrun (by omega)]
               simp only
               rw [if_pos (.inl (by omega))]
             rw [hx]
             exact ⟨rfl, hss.none⟩)
          | (have hx : decodeL s = none := by
               unfold decodeL
               rw [runL_all hrun (by omega)]
               simp only
               rw [if_pos (.inr (by omega))]
             rw [hx]
             exact ⟨rfl, hss.none⟩)
          | (have hx : decodeL s = some out := by
               unfold decodeL
               rw [runL_all hrun (by omega)]
               simp only
               rw [if_neg (by omega)]
             rw [hx]
             exact ⟨_, _, rfl, hss⟩)
end Go.Proofs.YtamplhegepgaeaaDoor
end

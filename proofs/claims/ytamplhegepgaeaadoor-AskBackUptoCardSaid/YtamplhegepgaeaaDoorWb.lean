/- The walks of this law's functions, second part. -/
import Derived.Test.YtamplhegepgaeaaDoorWa
section
/- Walks of this layer's functions on the logical memory, part 10: a payload of settings is read. -/
open Go Go.LZ
namespace Go.Proofs.YtamplhegepgaeaaDoor
set_option maxRecDepth 10000
set_option linter.unusedSimpArgs false
set_option linter.unusedVariables false
def num (bs : List UInt8) : Nat := bs.foldl (fun a c => a * 256 + c.toNat) 0
theorem num_lt (bs : List UInt8) : num bs < 2 ^ (8 * bs.length) := by
  have h : ∀ (l : List UInt8) (a k : Nat), a < 2 ^ k → l.foldl (fun a c => a * 256 + c.toNat) a < 2 ^ (k + 8 * l.length) := by
    intro l
    induction l with
    | nil => intro a k h; simpa using h
    | cons c l ih =>
      intro a k h
      rw [List.foldl_cons, List.length_cons, show k + 8 * (l.length + 1) = (k + 8) + 8 * l.length by omega]
      refine ih _ _ ?_
      have hc := c.toNat_lt
      rw [Nat.pow_add]
      omega
  simpa [num] using h bs 0 0 (by omega)
theorem number_wf (bs : List UInt8) (p : P3) (n k : Nat) (σ : LZ.H) (hb : RdB σ p n k bs) (hn : n ≤ 7) :
    WF Tryd.prog ext 100 [.slice p n k] σ (fun v σ' => v = .int .i64 (num bs : Nat) ∧ σ' = σ) := by
  refine WF.body rfl Tryd.func100 rfl rfl ?_
  have hlen := hb.len
  refine WC.seq ?_
  refine WC.region ?_
  refine WO.run 1 rfl ?_
  refine WO.nil ?_
  show WC _ _ _ _ _ _
  refine WC.seq ?_
  refine WC.region ?_
  refine WO.run 1 rfl ?_
  refine WO.nil ?_
  show WC _ _ _ _ _ _
  refine WC.seq ?_
  refine WC.seq ?_
  refine WC.region ?_
  refine WO.run 3 rfl ?_
  refine WO.nil ?_
  show WC _ _ _ _ _ _
  refine WC.block ?_
  refine WC.lp2 (fun (i : Nat) (a : Nat) => [(3, .int .i64 (a : Int)), (8, .int .i64 (i : Int))]) [5, 9, 10, 11, 12, 13, 14, 15, 16, 17] (fun (i : Nat) (a : Nat) => fun τ => τ = σ ∧ i ≤ n ∧ num (bs.take i) = a ∧ a < 2 ^ (8 * i)) (fun (i : Nat) (a : Nat) => n - i) (0) (0) (fun _ _ _ => rfl) rfl ⟨rfl, by omega, rfl, by omega⟩ ?_
  rintro i a g τ ⟨rfl, hi, hnum, ha⟩
  refine WC.seq ?_
  refine WC.region ?_
  refine WO.run 1 rfl ?_
  refine WO.nil ?_
  show WC _ _ _ _ _ _
  refine WC.seq ?_
  refine WC.cond rfl (fun c9 => ?_) (fun c9 => ?_)
  · replace c9 := of_decide_eq_true c9
    refine WC.skip ?_
    show WC _ _ _ _ _ _
    refine WC.seq ?_
    refine WC.block ?_
    refine WC.seq ?_
    refine WC.region ?_
    refine WO.ex rfl (Ob.indexN (RdB.toL hb) rfl rfl rfl rfl rfl (by omega)) ?_
    rintro _ _ ⟨rfl, r10, o10, y10, rfl, hy10, hr10, hd10⟩
    refine ⟨_, rfl, ?_⟩
    have hy256 := y10.toNat_lt
    have ha6 : a < 2 ^ 48 := Nat.lt_of_lt_of_le ha (Nat.pow_le_pow_right (by omega) (by omega))
    refine WO2.op rfl (Ob.load rfl rfl (hd10.ld (k := 0) rfl rfl)) rfl ?_
    refine WO.run 1 rfl ?_
    refine WO.nil ?_
    show WC _ _ _ _ _ _
    refine WC.region ?_
    refine WO.run 1 rfl ?_
    refine WO2.val (v' := .int .i64 ((a * 2 ^ 8 : Nat) : Int)) rfl rfl (iv_wrap (by show (a : Int) * 2 ^ 8 = _; omega) (by omega)) rfl ?_
    refine WO.run 1 rfl ?_
    refine WO2.val (v' := .int .i64 (y10.toNat : Int)) rfl rfl (iv_wrap rfl (by omega)) rfl ?_
    refine WO2.val (v' := .int .i64 ((a * 2 ^ 8 + y10.toNat : Nat) : Int)) rfl rfl (iv_or (by omega) (by omega) (or_add (k := 8) hy256)) rfl ?_
    refine WO.run 1 rfl ?_
    refine WO.nil ?_
    show WC _ _ _ _ _ _
    refine WC.region ?_
    refine WO2.val (v' := .int .i64 ((i + 1 : Nat) : Int)) rfl rfl (iv_wrap (by omega) (by omega)) rfl ?_
    refine WO.run 1 rfl ?_
    refine WO.nil ?_
    refine ⟨i + 1, _, rfl, ⟨rfl, by omega, ?_, ?_⟩, by omega⟩
    · rw [take_succ_at hy10, num, List.foldl_append, ← num, hnum]; rfl
    · rw [show 8 * (i + 1) = 8 * i + 8 by omega, Nat.pow_add]; omega
  · replace c9 := of_decide_eq_false c9
    refine WC.exit ?_
    show WC _ _ _ _ _ _
    refine WC.seq ?_
    refine WC.region ?_
    refine WO.run 2 rfl ?_
    refine WO.nil ?_
    show WC _ _ _ _ _ _
    refine WC.ret ?_
    refine ⟨_, (res_tmp rfl res_nil), ?_⟩
    have hx : i = bs.length := by omega
    subst hx
    rw [List.take_length] at hnum
    rw [hnum]
    exact ⟨rfl, rfl⟩
theorem place_wf (σ : LZ.H) : WF Tryd.prog ext 95 [.int .i64 4] σ (fun v σ' => v = .int .i64 0 ∧ σ' = σ) := by
  refine WF.body rfl Tryd.func95 rfl rfl ?_
  refine WC.seq ?_
  refine WC.region ?_
  refine WO.run 1 rfl ?_
  refine WO.nil ?_
  show WC _ _ _ _ _ _
  refine WC.seq ?_
  refine WC.seq ?_
  refine WC.region ?_
  refine WO.run 1 rfl ?_
  refine WO.nil ?_
  show WC _ _ _ _ _ _
  refine WC.block ?_
  refine WC.seq ?_
  refine WC.seq ?_
  refine WC.region ?_
  refine WO.run 2 rfl ?_
  refine WO.nil ?_
  show WC _ _ _ _ _ _
  refine WC.cond rfl (fun hc => ?_) (fun _ => ?_)
  · first | exact absurd hc (by decide) | (exfalso; simp_all; done)
  refine WC.seq ?_
  refine WC.region ?_
  refine WO.run 2 rfl ?_
  refine WO.nil ?_
  show WC _ _ _ _ _ _
  refine WC.cond rfl (fun hc => ?_) (fun _ => ?_)
  · first | exact absurd hc (by decide) | (exfalso; simp_all; done)
  refine WC.seq ?_
  refine WC.region ?_
  refine WO.run 2 rfl ?_
  refine WO.nil ?_
  show WC _ _ _ _ _ _
  refine WC.cond rfl (fun hc => ?_) (fun _ => ?_)
  · first | exact absurd hc (by decide) | (exfalso; simp_all; done)
  refine WC.seq ?_
  refine WC.region ?_
  refine WO.run 2 rfl ?_
  refine WO.nil ?_
  show WC _ _ _ _ _ _
  refine WC.cond rfl (fun hc => ?_) (fun _ => ?_)
  · first | exact absurd hc (by decide) | (exfalso; simp_all; done)
  refine WC.seq ?_
  refine WC.region ?_
  refine WO.run 2 rfl ?_
  refine WO.nil ?_
  show WC _ _ _ _ _ _
  refine WC.cond rfl (fun hc => ?_) (fun _ => ?_)
  · first | exact absurd hc (by decide) | (exfalso; simp_all; done)
  refine WC.region ?_
  refine WO.run 2 rfl ?_
  refine WO.nil ?_
  show WC _ _ _ _ _ _
  refine WC.cond rfl (fun hc => ?_) (fun _ => ?_)
  · first | exact absurd hc (by decide) | (exfalso; simp_all; done)
  refine WC.seq ?_
  refine WC.seq ?_
  refine WC.region ?_
  refine WO.run 2 rfl ?_
  refine WO.nil ?_
  show WC _ _ _ _ _ _
  refine WC.cond rfl (fun _ => ?_) (fun hc => ?_)
  rotate_left
  · first | exact absurd hc (by decide) | (exfalso; simp_all; done)
  refine WC.skip ?_
  show WC _ _ _ _ _ _
  refine WC.cond rfl (fun _ => ?_) (fun hc => ?_)
  rotate_left
  · first | exact absurd hc (by decide) | (exfalso; simp_all; done)
  refine WC.seq ?_
  refine WC.region ?_
  refine WO.run 1 rfl ?_
  refine WO.nil ?_
  show WC _ _ _ _ _ _
  refine WC.ret ?_
  refine ⟨_, (res_tmp rfl res_nil), ?_⟩
  exact ⟨rfl, rfl⟩
def frameC (p : P3) (n k : Nat) : List LV := [.int .i64 4, .int .i64 0, .int .i64 0, .slice p n k]
theorem bare_wf (p : P3) (n k : Nat) (a : LV) (σ : LZ.H) : WF Tryd.prog ext 96 [.agg (frameC p n k), a] σ (fun v σ' => v = .tuple [.slice p n k, .int .i64 0] ∧ Hs [] σ σ' []) := by
  refine WF.body rfl Tryd.func96 rfl rfl ?_
  have hs0 := Hs.nil σ
  refine WC.seq ?_
  refine WC.region ?_
  refine WO.ex rfl (Ob.box hs0 rfl rfl rfl rfl fun _ => rfl) ?_
  rintro _ τ1 ⟨r2, rfl, hs1⟩
  refine ⟨_, rfl, ?_⟩
  clear hs0
  refine WO.run 2 rfl ?_
  refine WO.nil ?_
  show WC _ _ _ _ _ _
  refine WC.seq ?_
  refine WC.region ?_
  refine WO2.op rfl (Ob.fieldAddr (k := 3) rfl rfl rfl rfl rfl rfl) rfl ?_
  refine WO2.op rfl (Ob.load rfl rfl (hs1.ld 0 rfl rfl)) rfl ?_
  refine WO.run 1 rfl ?_
  refine WO.nil ?_
  show WC _ _ _ _ _ _
  refine WC.seq ?_
  refine WC.seq ?_
  refine WC.region ?_
  refine WO2.op rfl (Ob.fieldAddr (k := 0) rfl rfl rfl rfl rfl rfl) rfl ?_
  refine WO2.op rfl (Ob.load rfl rfl (hs1.ld 0 rfl rfl)) rfl ?_
  refine WO2.call rfl rfl rfl rfl rfl ?_
  refine WF.mono (padded_wf _) ?_
  rintro _ _ ⟨rfl, rfl⟩
  refine ⟨_, rfl, ?_⟩
  refine WO.run 7 rfl ?_
  refine WO.nil ?_
  show WC _ _ _ _ _ _
  refine WC.cond rfl (fun _ => ?_) (fun hc => ?_)
  rotate_left
  · first | exact absurd hc (by decide) | (exfalso; simp_all; done)
  refine WC.seq ?_
  refine WC.region ?_
  refine WO.run 3 rfl ?_
  refine WO.nil ?_
  show WC _ _ _ _ _ _
  refine WC.ret ?_
  refine ⟨_, (res_tmp rfl (res_tmp rfl res_nil)), ?_⟩
  exact ⟨rfl, hs1.none⟩
theorem sized_wf (p : P3) (n k : Nat) (h6 : n % 6 = 0) (σ : LZ.H) : WF Tryd.prog ext 97 [.agg (frameC p n k), .int .i64 (n : Int)] σ (fun v σ' => v = .bool true ∧ Hs [] σ σ' []) := by
  refine WF.body rfl Tryd.func97 rfl rfl ?_
  have hs0 := Hs.nil σ
  refine WC.seq ?_
  refine WC.region ?_
  refine WO.ex rfl (Ob.box hs0 rfl rfl rfl rfl fun _ => rfl) ?_
  rintro _ τ1 ⟨r2, rfl, hs1⟩
  refine ⟨_, rfl, ?_⟩
  clear hs0
  refine WO.run 1 rfl ?_
  refine WO.nil ?_
  show WC _ _ _ _ _ _
  refine WC.seq ?_
  refine WC.seq ?_
  refine WC.region ?_
  refine WO2.op rfl (Ob.fieldAddr (k := 0) rfl rfl rfl rfl rfl rfl) rfl ?_
  refine WO2.op rfl (Ob.load rfl rfl (hs1.ld 0 rfl rfl)) rfl ?_
  refine WO.nil ?_
  show WC _ _ _ _ _ _
  refine WC.block ?_
  refine WC.seq ?_
  refine WC.region ?_
  refine WO.run 2 rfl ?_
  refine WO.nil ?_
  show WC _ _ _ _ _ _
  refine WC.cond rfl (fun hc => ?_) (fun _ => ?_)
  · first | exact absurd hc (by decide) | (exfalso; simp_all; done)
  refine WC.seq ?_
  refine WC.region ?_
  refine WO.run 2 rfl ?_
  refine WO.nil ?_
  show WC _ _ _ _ _ _
  refine WC.cond rfl (fun hc => ?_) (fun _ => ?_)
  · first | exact absurd hc (by decide) | (exfalso; simp_all; done)
  refine WC.seq ?_
  refine WC.seq ?_
  refine WC.region ?_
  refine WO.run 2 rfl ?_
  refine WO.nil ?_
  show WC _ _ _ _ _ _
  refine WC.cond rfl (fun hc => ?_) (fun _ => ?_)
  · first | exact absurd hc (by decide) | (exfalso; simp_all; done)
  refine WC.region ?_
  refine WO.run 2 rfl ?_
  refine WO.nil ?_
  show WC _ _ _ _ _ _
  refine WC.cond rfl (fun hc => ?_) (fun _ => ?_)
  · first | exact absurd hc (by decide) | (exfalso; simp_all; done)
  refine WC.seq ?_
  refine WC.region ?_
  refine WO.run 2 rfl ?_
  refine WO.nil ?_
  show WC _ _ _ _ _ _
  refine WC.cond rfl (fun _ => ?_) (fun hc => ?_)
  rotate_left
  · first | exact absurd hc (by decide) | (exfalso; simp_all; done)
  refine WC.seq ?_
  refine WC.region ?_
  refine WO.run 1 rfl ?_
  refine WO2.val (v' := .int .i64 ((n % 6 : Nat) : Int)) rfl rfl rfl rfl ?_
  refine WO.run 1 rfl ?_
  refine WO2.both rfl rfl (fun h31 => ?_) (fun h31 => ?_)
  · refine ⟨_, rfl, ?_⟩
    replace h31 := eq_of_beq h31
    refine WO2.op rfl (Ob.fieldAddr (k := 1) rfl rfl rfl rfl rfl rfl) rfl ?_
    refine WO2.op rfl (Ob.load rfl rfl (hs1.ld 0 rfl rfl)) rfl ?_
    refine WO.run 8 rfl ?_
    refine WO.nil ?_
    show WC _ _ _ _ _ _
    refine WC.ret ?_
    refine ⟨_, (res_tmp rfl res_nil), ?_⟩
    exact ⟨rfl, hs1.none⟩
  · refine ⟨_, rfl, ?_⟩
    replace h31 := ne_of_beq_false h31
    omega
/-- Settings in a payload. -/
def mkS (a b : List UInt8) : Stg := ⟨(num a : Nat), (num b : Nat)⟩
/-- All of them. -/
def setsR : List UInt8 → List Stg
  | a :: b :: c :: d :: e :: f :: r => mkS [a, b] [c, d, e, f] :: setsR r
  | _ => []
theorem six_of {bs : List UInt8} (h : 6 ≤ bs.length) : ∃ a b c d e f r, bs = a :: b :: c :: d :: e :: f :: r := by
  match bs, h with
  | a :: b :: c :: d :: e :: f :: r, _ => exact ⟨a, b, c, d, e, f, r, rfl⟩
theorem read_wf (bs : List UInt8) (p : P3) (n k : Nat) (σ : LZ.H) (hb : RdB σ p n k bs) (hn : n ≤ 16777216) (h6 : n % 6 = 0) :
    WF Tryd.prog ext 73 [.agg (frameC p n k)] σ (fun v σ' => ∃ p' k', v = .tuple [.agg (bodyC p' (setsR bs).length k'), .int .i64 0] ∧ Hs [] σ σ' [At.sl 62 2 p' (setsR bs).length k' ((setsR bs).flatMap encT)]) := by
  refine WF.body rfl Tryd.func73 rfl rfl ?_
  have hs0 := Hs.nil σ
  have hlen := hb.len
  refine WC.seq ?_
  refine WC.region ?_
  refine WO.ex rfl (Ob.box hs0 rfl rfl rfl rfl fun _ => rfl) ?_
  rintro _ τ1 ⟨r1, rfl, hs1⟩
  refine ⟨_, rfl, ?_⟩
  clear hs0
  refine WO.ex rfl (Ob.alloc hs1 rfl rfl fun _ => rfl) ?_
  rintro _ τ2 ⟨r2, rfl, hs2⟩
  refine ⟨_, rfl, ?_⟩
  clear hs1
  refine WO.run 1 rfl ?_
  refine WO.nil ?_
  show WC _ _ _ _ _ _
  refine WC.seq ?_
  refine WC.seq ?_
  refine WC.region ?_
  refine WO2.op rfl (Ob.fieldAddr (k := 0) rfl rfl rfl rfl rfl rfl) rfl ?_
  refine WO2.op rfl (Ob.load rfl rfl (hs2.ld 0 rfl rfl)) rfl ?_
  refine WO2.call rfl rfl rfl rfl rfl ?_
  refine WF.mono (place_wf _) ?_
  rintro _ _ ⟨rfl, rfl⟩
  refine ⟨_, rfl, ?_⟩
  refine WO.run 1 rfl ?_
  refine WO.nil ?_
  show WC _ _ _ _ _ _
  refine WC.seq ?_
  refine WC.region ?_
  refine WO.run 11 rfl ?_
  refine WO2.op rfl (Ob.fieldAddr (k := 2) rfl rfl rfl rfl rfl rfl) rfl ?_
  refine WO2.op rfl (Ob.load rfl rfl (hs2.ld 0 rfl rfl)) rfl ?_
  refine WO.run 3 rfl ?_
  refine WO.nil ?_
  show WC _ _ _ _ _ _
  refine WC.cond rfl (fun hc => ?_) (fun _ => ?_)
  · first | exact absurd hc (by decide) | (exfalso; simp_all; done)
  refine WC.skip ?_
  show WC _ _ _ _ _ _
  refine WC.seq ?_
  refine WC.region ?_
  refine WO.ex rfl (Ob.alloc hs2 rfl rfl fun _ => rfl) ?_
  rintro _ τ3 ⟨r5, rfl, hs3⟩
  refine ⟨_, rfl, ?_⟩
  clear hs2
  refine WO.nil ?_
  show WC _ _ _ _ _ _
  refine WC.seq ?_
  refine WC.region ?_
  refine WO2.op rfl (Ob.load rfl rfl (hs3.ld 0 rfl rfl)) rfl ?_
  refine WO2.call rfl rfl rfl rfl rfl ?_
  refine WF.mono (bare_wf p n k _ _) ?_
  rintro _ τa ⟨rfl, hx⟩
  have hs4 := hs3.add' hx rfl
  refine ⟨_, rfl, ?_⟩
  refine WO.run 5 rfl ?_
  refine WO.nil ?_
  show WC _ _ _ _ _ _
  refine WC.seq ?_
  refine WC.seq ?_
  refine WC.region ?_
  refine WO.run 3 rfl ?_
  refine WO2.op rfl (Ob.load rfl rfl (hs4.ld 0 rfl rfl)) rfl ?_
  refine WO.run 2 rfl ?_
  refine WO2.call rfl rfl rfl rfl rfl ?_
  refine WF.mono (sized_wf p n k h6 _) ?_
  rintro _ τb ⟨rfl, hx⟩
  have hs5 := hs4.add' hx rfl
  refine ⟨_, rfl, ?_⟩
  refine WO.run 2 rfl ?_
  refine WO.nil ?_
  show WC _ _ _ _ _ _
  refine WC.cond rfl (fun hc => ?_) (fun _ => ?_)
  · first | exact absurd hc (by decide) | (exfalso; simp_all; done)
  refine WC.skip ?_
  show WC _ _ _ _ _ _
  refine WC.seq ?_
  refine WC.seq ?_
  refine WC.region ?_
  refine WO.run 2 rfl ?_
  refine WO.nil ?_
  show WC _ _ _ _ _ _
  refine WC.cond rfl (fun hc => ?_) (fun _ => ?_)
  · first | exact absurd hc (by decide) | (exfalso; simp_all; done)
  refine WC.skip ?_
  show WC _ _ _ _ _ _
  refine WC.seq ?_
  refine WC.seq ?_
  refine WC.region ?_
  refine WO2.op rfl (Ob.fieldAddr (k := 0) rfl rfl rfl rfl rfl rfl) rfl ?_
  refine WO2.op rfl (Ob.load rfl rfl (hs5.ld 0 rfl rfl)) rfl ?_
  refine WO.nil ?_
  show WC _ _ _ _ _ _
  refine WC.block ?_
  refine WC.seq ?_
  refine WC.seq ?_
  refine WC.region ?_
  refine WO.run 2 rfl ?_
  refine WO.nil ?_
  show WC _ _ _ _ _ _
  refine WC.cond rfl (fun hc => ?_) (fun _ => ?_)
  · first | exact absurd hc (by decide) | (exfalso; simp_all; done)
  refine WC.seq ?_
  refine WC.region ?_
  refine WO.run 2 rfl ?_
  refine WO.nil ?_
  show WC _ _ _ _ _ _
  refine WC.cond rfl (fun hc => ?_) (fun _ => ?_)
  · first | exact absurd hc (by decide) | (exfalso; simp_all; done)
  refine WC.region ?_
  refine WO.run 2 rfl ?_
  refine WO.nil ?_
  show WC _ _ _ _ _ _
  refine WC.cond rfl (fun hc => ?_) (fun _ => ?_)
  · first | exact absurd hc (by decide) | (exfalso; simp_all; done)
  refine WC.seq ?_
  refine WC.region ?_
  refine WO.run 2 rfl ?_
  refine WO.nil ?_
  show WC _ _ _ _ _ _
  refine WC.cond rfl (fun hc => ?_) (fun _ => ?_)
  · first | exact absurd hc (by decide) | (exfalso; simp_all; done)
  refine WC.seq ?_
  refine WC.region ?_
  refine WO.run 2 rfl ?_
  refine WO.nil ?_
  show WC _ _ _ _ _ _
  refine WC.cond rfl (fun hc => ?_) (fun _ => ?_)
  · first | exact absurd hc (by decide) | (exfalso; simp_all; done)
  refine WC.seq ?_
  refine WC.region ?_
  refine WO.run 2 rfl ?_
  refine WO.nil ?_
  show WC _ _ _ _ _ _
  refine WC.cond rfl (fun hc => ?_) (fun _ => ?_)
  · first | exact absurd hc (by decide) | (exfalso; simp_all; done)
  refine WC.seq ?_
  refine WC.region ?_
  refine WO.run 2 rfl ?_
  refine WO.nil ?_
  show WC _ _ _ _ _ _
  refine WC.cond rfl (fun _ => ?_) (fun hc => ?_)
  rotate_left
  · first | exact absurd hc (by decide) | (exfalso; simp_all; done)
  refine WC.block ?_
  have hs9 := hs5.nilSl 62 2 rfl
  refine WC.lp7 (fun (out : List Stg) (p1 : P3) (k1 : Nat) (q : P3) (m : Nat) (kq : Nat) (rest : List UInt8) => [(6, .slice q m kq)]) [79, 80, 81, 82, 83, 84, 85, 86, 87, 88, 89, 90, 91, 92, 93, 94, 95] (fun (out : List Stg) (p1 : P3) (k1 : Nat) (q : P3) (m : Nat) (kq : Nat) (rest : List UInt8) => fun τ => Hs [] σ τ [At.row r1 76 (frameC p n k), At.row r2 80 (bodyC none 0 0), At.row r5 80 (bodyC p1 out.length k1), At.sl 62 2 p1 out.length k1 (out.flatMap encT)] ∧ RdB σ q m kq rest ∧ m % 6 = 0 ∧ m ≤ n ∧ setsR bs = out ++ setsR rest ∧ out.length * 6 + m = n) (fun (out : List Stg) (p1 : P3) (k1 : Nat) (q : P3) (m : Nat) (kq : Nat) (rest : List UInt8) => m) ([]) (none) (0) (p) (n) (k) (bs) (fun _ _ _ _ _ _ _ _ => rfl) rfl ⟨hs9, hb, h6, by omega, rfl, by simp⟩ ?_
  rintro out p1 k1 q m kq rest g τ ⟨hs, hq, hm6, hmn, hsets, hcnt⟩
  have hql := hq.len
  refine WC.seq ?_
  refine WC.seq ?_
  refine WC.region ?_
  refine WO.run 3 rfl ?_
  refine WO.nil ?_
  show WC _ _ _ _ _ _
  refine WC.cond rfl (fun c81 => ?_) (fun c81 => ?_)
  · replace c81 := of_decide_eq_true c81
    obtain ⟨a0, a1, a2, a3, a4, a5, rest', rfl⟩ := six_of (show 6 ≤ rest.length by omega)
    refine WC.skip ?_
    show WC _ _ _ _ _ _
    refine WC.seq ?_
    refine WC.block ?_
    refine WC.draw (by kernel_rfl) ?_
    refine WD2.op0 rfl rfl (Ob.fieldAddr (k := 9) rfl rfl rfl rfl rfl rfl) rfl ?_
    refine WD2.op1 rfl rfl (Ob.load rfl rfl (hs.ld 2 rfl rfl)) rfl ?_
    refine WD.run 1 rfl ?_
    refine WD2.op0 rfl rfl (Ob.slHi (b := 2) (Rd.fr hq hs.fr (by simp)) rfl rfl rfl rfl rfl (by omega)) rfl ?_
    refine WD2.call rfl rfl rfl rfl rfl ?_
    refine WF.mono (number_wf [a0, a1] _ _ _ _ (RdB.fr (RdB.sub hq (a := 0) (b := 2) (by omega) (by omega)) hs.fr (by simp)) (by omega)) ?_
    rintro _ _ ⟨rfl, rfl⟩
    refine ⟨_, rfl, ?_⟩
    refine WD.run 1 rfl ?_
    refine WD2.op0 rfl rfl (Ob.slBoth (a := 2) (b := 6) (Rd.fr hq hs.fr (by simp)) rfl rfl rfl rfl rfl rfl (by omega) (by omega)) rfl ?_
    refine WD2.call rfl rfl rfl rfl rfl ?_
    refine WF.mono (number_wf [a2, a3, a4, a5] _ _ _ _ (RdB.fr (RdB.sub hq (a := 2) (b := 6) (by omega) (by omega)) hs.fr (by simp)) (by omega)) ?_
    rintro _ _ ⟨rfl, rfl⟩
    refine ⟨_, rfl, ?_⟩
    refine WD.run 1 rfl ?_
    refine WD.ex rfl rfl (Ob.buildSlice (e := 62) (z := 1) hs rfl rfl rfl rfl rfl rfl fun _ => rfl) ?_
    rintro _ τ6 ⟨p93, rfl, hs6⟩
    refine ⟨_, rfl, ?_⟩
    refine WD.ex rfl rfl (Ob.appL (enc := encT) (ys := [mkS [a0, a1] [a2, a3, a4, a5]]) (e := 62) (z := 2) (b := 16) hs6 3 (by intro _; rfl) (by decide) rfl rfl rfl rfl rfl rfl (Rd.src (hs6.rd (i := 4) rfl)) (by first | rfl | exact RdL.len (hs6.rdL (i := 4) rfl (by intro _; rfl) (by decide))) (by simp only [List.length_append, List.length_cons, List.length_nil]; omega) fun _ _ => rfl) ?_
    rintro _ τ7 ⟨p94, k94, rfl, hs7⟩
    refine ⟨_, rfl, ?_⟩
    replace hs7 := hs7.del 4 rfl rfl
    refine WD2.op0 rfl rfl (Ob.fieldAddr (k := 9) rfl rfl rfl rfl rfl rfl) rfl ?_
    refine WD.ex rfl rfl (Ob.store hs7 2 rfl rfl rfl rfl rfl rfl rfl rfl) ?_
    rintro _ τ8 ⟨rfl, hs8⟩
    refine ⟨_, rfl, ?_⟩
    refine WD.nil ⟨reads_ok ⟨⟨.inl (by kernel_rfl), .inl (by kernel_rfl), .inr (opR_load rfl (hs6.ld 2 rfl rfl)), .inr (opR_load rfl (hs.ld 2 rfl rfl)), .inr (opR_load rfl (hs.ld 2 rfl rfl)), .inr (opR_load rfl (hs.ld 2 rfl rfl)), trivial⟩, trivial⟩, ?_⟩
    show WC _ _ _ _ _ _
    refine WC.region ?_
    refine WO.run 1 rfl ?_
    refine WO2.op rfl (Ob.slLo (a := 6) (Rd.fr hq hs8.fr (by simp)) rfl rfl rfl rfl rfl (by omega)) rfl ?_
    refine WO.run 1 rfl ?_
    refine WO.nil ?_
    refine ⟨out ++ [mkS [a0, a1] [a2, a3, a4, a5]], _, _, _, m - 6, _, rest', rfl, ⟨hs8, ?_, by omega, by omega, by rw [hsets]; simp [setsR], by simp only [List.length_append, List.length_cons, List.length_nil]; omega⟩, by omega⟩
    have := RdB.sub hq (a := 6) (b := m) (by omega) (by omega)
    rw [List.take_of_length_le (by omega)] at this
    exact this
  · replace c81 := of_decide_eq_false c81
    refine WC.exit ?_
    show WC _ _ _ _ _ _
    refine WC.seq ?_
    refine WC.region ?_
    refine WO2.op rfl (Ob.load rfl rfl (hs.ld 2 rfl rfl)) rfl ?_
    refine WO.ex rfl (Ob.store hs 1 rfl rfl rfl rfl rfl rfl rfl rfl) ?_
    rintro _ τ9 ⟨rfl, hs9⟩
    refine ⟨_, rfl, ?_⟩
    refine WO.run 1 rfl ?_
    refine WO.nil ?_
    show WC _ _ _ _ _ _
    refine WC.ret ?_
    refine ⟨_, (res_cell rfl (hs9.ld 1 rfl rfl) (res_tmp rfl res_nil)), ?_⟩
    have hr : rest = [] := List.eq_nil_of_length_eq_zero (by omega)
    subst hr
    simp only [setsR, List.append_nil] at hsets
    rw [hsets]
    exact ⟨p1, k1, rfl, ((hs9.del 0 rfl rfl).del 0 rfl rfl).del 0 rfl rfl⟩
end Go.Proofs.YtamplhegepgaeaaDoor
end
section
/- Walks of this layer's functions on the logical memory, part 11: a request is written. -/
open Go Go.LZ
namespace Go.Proofs.YtamplhegepgaeaaDoor
set_option maxRecDepth 10000
set_option linter.unusedSimpArgs false
set_option linter.unusedVariables false
theorem runH_small {M : Nat} : ∀ {fs : List Fld} {st st' : Nat × List (B × B)}, runL hstep st fs = some st' → smallM M st.2 → smallF M fs → smallM M st'.2
  | [], st, st', h, hm, _ => by simp only [runL, Option.some.injEq] at h; rw [← h]; exact hm
  | f :: fs, st, st', h, hm, hf => by
    simp only [runL] at h
    obtain ⟨s1, h1, h2⟩ := Option.bind_eq_some_iff.1 h
    refine runH_small h2 ?_ fun g hg => hf g (List.mem_cons_of_mem _ hg)
    unfold hstep at h1
    split at h1
    · cases h1
    · split at h1
      · split at h1
        · obtain rfl := Option.some.inj h1
          exact hm.put (hf f List.mem_cons_self).2
        · cases h1
      · split at h1
        · cases h1
        · obtain rfl := Option.some.inj h1
          exact hm
def sConn : List UInt8 := [67, 111, 110, 110, 101, 99, 116, 105, 111, 110, 58, 32, 85, 112, 103, 114, 97, 100, 101, 44, 32, 72, 84, 84, 80, 50, 45, 83, 101, 116, 116, 105, 110, 103, 115]
def sUpg : List UInt8 := [85, 112, 103, 114, 97, 100, 101, 58, 32, 104, 50, 99]
def sHost : List UInt8 := [72, 111, 115, 116, 58, 32]
def sSet : List UInt8 := [72, 84, 84, 80, 50, 45, 83, 101, 116, 116, 105, 110, 103, 115, 58, 32]
def sHttp1 : List UInt8 := [32, 72, 84, 84, 80, 47, 49, 46, 49]
def crlf : List UInt8 := [13, 10]
def lines5 (m : List (B × B)) (ss : List Stg) : List B := [val kMethod m ++ [32] ++ val kPath m ++ sHttp1, sHost ++ val kAuth m, sConn, sUpg, sSet ++ codeL (ss.flatMap setB)]
def fline (f : Fld) : B := f.name ++ [58, 32] ++ f.value
def askT (fs : List Fld) (ss : List Stg) (m : List (B × B)) : B := Lib.join (lines5 m ss ++ (fs.drop 4).map fline) crlf ++ crlf ++ crlf
theorem emit_length (w : Nat) : ∀ b, (emit w b).length ≤ b / 6 := by
  intro b
  induction b using Nat.strongRecOn with
  | _ b ih =>
    by_cases h : 6 ≤ b
    · rw [emit_ge h, List.length_cons]
      have := ih (b - 6) (by omega)
      omega
    · rw [emit_lt (by omega)]; simp
theorem codeR_length : ∀ (bs : List UInt8) (st : List UInt8 × Nat × Nat), st.2.2 < 6 → (bs.foldl cstep st).1.length ≤ st.1.length + 2 * bs.length
  | [], st, _ => by simp
  | c :: bs, st, h => by
    have ih := codeR_length bs (cstep st c) (Nat.mod_lt _ (by omega))
    have h1 : (cstep st c).1.length ≤ st.1.length + 2 := by
      simp only [cstep, List.length_append]
      have := emit_length (st.2.1 * 256 + c.toNat) (st.2.2 + 8)
      omega
    rw [List.foldl_cons, List.length_cons]
    omega
theorem codeL_length (bs : List UInt8) : (codeL bs).length ≤ 2 * bs.length + 1 := by
  have := codeR_length bs ([], 0, 0) (by simp)
  unfold codeL codeE codeR
  split
  · rw [List.length_append]; simp at this ⊢; omega
  · simp at this ⊢; omega
inductive AskR where
  | no (code : Int)
  | ok (b : B)
def askL (fs : List Fld) (ss : List Stg) : AskR :=
  if requestOk fs = false then .no 5
  else match headsL fs with
    | none => .no 5
    | some (_, m) =>
      if headOk m = false then .no 5
      else if ss.all setOk = false then .no 1
      else if 16384 < (askT fs ss m).length then .no 2
      else .ok (askT fs ss m)
theorem ask_wf (fs : List Fld) (ss : List Stg) (p q : P3) (n k n2 k2 : Nat) (σ : LZ.H) (hfs : RdL σ encF 3 p n k fs) (hsm : smallF 1048576 fs) (hn : n ≤ 1048576) (hss : RdL σ encT 2 q n2 k2 ss) (hn2 : n2 ≤ 1048576)
    (hlen : ∀ i m, headsL fs = some (i, m) → (askT fs ss m).length ≤ 1099511627776) :
    WF Tryd.prog ext 9 [.slice p n k, .slice q n2 k2] σ (fun v σ' => match askL fs ss with
      | .no c => v = .tuple [.slice none 0 0, .int .i64 c] ∧ Hs [] σ σ' []
      | .ok b => ∃ p' k', v = .tuple [.slice p' b.length k', .int .i64 0] ∧ Hs [] σ σ' [At.bs 5 p' b.length k' b]) := by
  refine WF.body rfl Tryd.func9 rfl rfl ?_
  have hs0 := Hs.nil σ
  have hl1 := hfs.len
  have hl2 := hss.len
  refine WC.seq ?_
  refine WC.region ?_
  refine WO.run 2 rfl ?_
  refine WO.nil ?_
  show WC _ _ _ _ _ _
  refine WC.seq ?_
  refine WC.seq ?_
  refine WC.region ?_
  refine WO.run 1 rfl ?_
  refine WO2.call rfl rfl rfl rfl rfl ?_
  refine WF.mono (request_wf fs _ _ _ _ hfs hsm hn) ?_
  rintro _ τr ⟨rfl, hx⟩
  have hs1 := hs0.add' hx rfl
  refine ⟨_, rfl, ?_⟩
  refine WO.run 1 rfl ?_
  refine WO.nil ?_
  show WC _ _ _ _ _ _
  refine WC.cond rfl (fun c17 => ?_) (fun c17 => ?_)
  · replace c17 := bne_iff_ne.1 c17
    have hr : requestOk fs = false := by
      cases hr : requestOk fs with
      | false => rfl
      | true => rw [hr] at c17; simp at c17
    refine WC.seq ?_
    refine WC.region ?_
    refine WO.run 2 rfl ?_
    refine WO.nil ?_
    show WC _ _ _ _ _ _
    refine WC.ret ?_
    refine ⟨_, (res_tmp rfl (res_tmp rfl res_nil)), ?_⟩
    first
      | (have hx : askL fs ss = .no 5 := by simp only [askL, hr, if_true]
         rw [hx]
         exact ⟨rfl, hs1.none⟩)
      | (have hx : askL fs ss = .no 5 := by simp [askL, hr, hp]
         rw [hx]
         exact ⟨rfl, hs1.none⟩)
      | (have hx : askL fs ss = .no 5 := by simp [askL, hr, hp, c25]
         rw [hx]
         exact ⟨rfl, hs1.none⟩)
      | (have hx : askL fs ss = .no 1 := by simp [askL, hr, hp, c25, hall]
         rw [hx]
         exact ⟨rfl, hs1.none⟩)
      | (have hx : askL fs ss = .no 2 := by
           rw [hT] at c72
           simp only [askL, hr, hp, c25, hall]
           simp
           omega
         rw [hx]
         exact ⟨rfl, hs1.none⟩)
      | (have hx : askL fs ss = .ok (askT fs ss m) := by
           rw [hT] at c72
           simp only [askL, hr, hp, c25, hall]
           simp
           omega
         rw [hx, ← hT]
         exact ⟨_, _, rfl, (((hs1.del 0 rfl rfl).del 0 rfl rfl).del 0 rfl rfl).del 0 rfl rfl⟩)
  · replace c17 := eq_of_bne_false c17
    have hr : requestOk fs = true := by
      cases hr : requestOk fs with
      | true => rfl
      | false => rw [hr] at c17; simp at c17
    refine WC.skip ?_
    show WC _ _ _ _ _ _
    refine WC.seq ?_
    refine WC.region ?_
    refine WO.run 1 rfl ?_
    refine WO2.call rfl rfl rfl rfl rfl ?_
    refine WF.mono (heads_wf fs _ _ _ _ (hfs.fr hs1.fr (by simp)) hsm hn) ?_
    intro v τh hq
    rcases hp : headsL fs with _ | ⟨jm, m⟩
    · rw [hp] at hq
      obtain ⟨rfl, hx⟩ := hq
      have hs2 := hs1.add' hx rfl
      refine ⟨_, rfl, ?_⟩
      refine WO.run 7 rfl ?_
      refine WO.nil ?_
      show WC _ _ _ _ _ _
      refine WC.seq ?_
      refine WC.seq ?_
      refine WC.region ?_
      refine WO.run 2 rfl ?_
      refine WO.nil ?_
      show WC _ _ _ _ _ _
      refine WC.cond rfl (fun _ => ?_) (fun hc => ?_)
      rotate_left
      · first | exact absurd hc (by decide) | (exfalso; simp_all; done)
      refine WC.seq ?_
      refine WC.region ?_
      refine WO.run 2 rfl ?_
      refine WO.nil ?_
      show WC _ _ _ _ _ _
      refine WC.ret ?_
      refine ⟨_, (res_tmp rfl (res_tmp rfl res_nil)), ?_⟩
      first
        | (have hx : askL fs ss = .no 5 := by simp only [askL, hr, if_true]
           rw [hx]
           exact ⟨rfl, hs2.none⟩)
        | (have hx : askL fs ss = .no 5 := by simp [askL, hr, hp]
           rw [hx]
           exact ⟨rfl, hs2.none⟩)
        | (have hx : askL fs ss = .no 5 := by simp [askL, hr, hp, c25]
           rw [hx]
           exact ⟨rfl, hs2.none⟩)
        | (have hx : askL fs ss = .no 1 := by simp [askL, hr, hp, c25, hall]
           rw [hx]
           exact ⟨rfl, hs2.none⟩)
        | (have hx : askL fs ss = .no 2 := by
             rw [hT] at c72
             simp only [askL, hr, hp, c25, hall]
             simp
             omega
           rw [hx]
           exact ⟨rfl, hs2.none⟩)
        | (have hx : askL fs ss = .ok (askT fs ss m) := by
             rw [hT] at c72
             simp only [askL, hr, hp, c25, hall]
             simp
             omega
           rw [hx, ← hT]
           exact ⟨_, _, rfl, (((hs2.del 0 rfl rfl).del 0 rfl rfl).del 0 rfl rfl).del 0 rfl rfl⟩)
    · rw [hp] at hq
      obtain ⟨rm, rfl, hx⟩ := hq
      have hs3 := hs1.add' hx rfl
      have hm : smallM 1048576 m := runH_small hp (fun _ h => by cases h) hsm
      have hmM : ((getS [58, 109, 101, 116, 104, 111, 100] m).getD []).length ≤ 1048576 := hm.val kMethod
      have hmP : ((getS [58, 112, 97, 116, 104] m).getD []).length ≤ 1048576 := hm.val kPath
      have hmA : ((getS [58, 97, 117, 116, 104, 111, 114, 105, 116, 121] m).getD []).length ≤ 1048576 := hm.val kAuth
      have hrest := hfs.from (Nat.min_le_left n 4)
      refine ⟨_, rfl, ?_⟩
      refine WO.run 7 rfl ?_
      refine WO.nil ?_
      show WC _ _ _ _ _ _
      refine WC.seq ?_
      refine WC.seq ?_
      refine WC.region ?_
      refine WO.run 2 rfl ?_
      refine WO.nil ?_
      show WC _ _ _ _ _ _
      refine WC.cond rfl (fun c25 => ?_) (fun c25 => ?_)
      · replace c25 := not_true_eq c25
        refine WC.seq ?_
        refine WC.region ?_
        refine WO.run 2 rfl ?_
        refine WO.nil ?_
        show WC _ _ _ _ _ _
        refine WC.ret ?_
        refine ⟨_, (res_tmp rfl (res_tmp rfl res_nil)), ?_⟩
        first
          | (have hx : askL fs ss = .no 5 := by simp only [askL, hr, if_true]
             rw [hx]
             exact ⟨rfl, hs3.none⟩)
          | (have hx : askL fs ss = .no 5 := by simp [askL, hr, hp]
             rw [hx]
             exact ⟨rfl, hs3.none⟩)
          | (have hx : askL fs ss = .no 5 := by simp [askL, hr, hp, c25]
             rw [hx]
             exact ⟨rfl, hs3.none⟩)
          | (have hx : askL fs ss = .no 1 := by simp [askL, hr, hp, c25, hall]
             rw [hx]
             exact ⟨rfl, hs3.none⟩)
          | (have hx : askL fs ss = .no 2 := by
               rw [hT] at c72
               simp only [askL, hr, hp, c25, hall]
               simp
               omega
             rw [hx]
             exact ⟨rfl, hs3.none⟩)
          | (have hx : askL fs ss = .ok (askT fs ss m) := by
               rw [hT] at c72
               simp only [askL, hr, hp, c25, hall]
               simp
               omega
             rw [hx, ← hT]
             exact ⟨_, _, rfl, (((hs3.del 0 rfl rfl).del 0 rfl rfl).del 0 rfl rfl).del 0 rfl rfl⟩)
      · replace c25 := not_false_eq c25
        refine WC.skip ?_
        show WC _ _ _ _ _ _
        refine WC.seq ?_
        refine WC.region ?_
        refine WO.run 2 rfl ?_
        refine WO2.call rfl rfl rfl rfl rfl ?_
        refine WF.mono (make_wf ss _ _ _ _ (hss.fr hs3.fr (by simp)) hn2) ?_
        intro v τk hq
        rcases Bool.eq_false_or_eq_true (ss.all setOk) with hall | hall
        · rw [if_pos hall] at hq
          obtain ⟨pk, kk, rfl, hx⟩ := hq
          have hs4 := hs3.add' hx rfl
          refine ⟨_, rfl, ?_⟩
          refine WO.run 3 rfl ?_
          refine WO.ex rfl (Ob.alloc hs4 rfl rfl fun _ => rfl) ?_
          rintro _ τ5 ⟨r9, rfl, hs5⟩
          refine ⟨_, rfl, ?_⟩
          clear hs4
          refine WO.ex rfl (Ob.store hs5 2 rfl rfl rfl rfl rfl rfl rfl rfl) ?_
          rintro _ τ6 ⟨rfl, hs6⟩
          refine ⟨_, rfl, ?_⟩
          clear hs5
          refine WO.run 1 rfl ?_
          refine WO.nil ?_
          show WC _ _ _ _ _ _
          refine WC.seq ?_
          refine WC.seq ?_
          refine WC.region ?_
          refine WO.run 2 rfl ?_
          refine WO.nil ?_
          show WC _ _ _ _ _ _
          refine WC.cond rfl (fun hc => ?_) (fun _ => ?_)
          · first | exact absurd hc (by decide) | (exfalso; simp_all; done)
          refine WC.skip ?_
          show WC _ _ _ _ _ _
          refine WC.seq ?_
          refine WC.draw (by kernel_rfl) ?_
          refine WD.run 1 rfl ?_
          refine WD2.op1 rfl rfl (Ob.lookupS rfl rfl rfl rfl rfl (hs6.get (i := 0) rfl) rfl) rfl ?_
          refine WD2.op0 rfl rfl (Ob.strAdd rfl rfl rfl (by simp only [List.length_append, List.length_cons, List.length_nil]; omega)) rfl ?_
          refine WD.run 1 rfl ?_
          refine WD2.op1 rfl rfl (Ob.lookupS rfl rfl rfl rfl rfl (hs6.get (i := 0) rfl) rfl) rfl ?_
          refine WD2.op0 rfl rfl (Ob.strAdd rfl rfl rfl (by simp only [List.length_append, List.length_cons, List.length_nil]; omega)) rfl ?_
          refine WD2.op0 rfl rfl (Ob.strAdd rfl rfl rfl (by simp only [List.length_append, List.length_cons, List.length_nil]; omega)) rfl ?_
          refine WD.run 1 rfl ?_
          refine WD2.op1 rfl rfl (Ob.lookupS rfl rfl rfl rfl rfl (hs6.get (i := 0) rfl) rfl) rfl ?_
          refine WD2.op0 rfl rfl (Ob.strAdd rfl rfl rfl (by simp only [List.length_append, List.length_cons, List.length_nil]; omega)) rfl ?_
          refine WD2.op0 rfl rfl (Ob.fieldAddr (k := 3) rfl rfl rfl rfl rfl rfl) rfl ?_
          refine WD2.op1 rfl rfl (Ob.load rfl rfl (hs6.ld 2 rfl rfl)) rfl ?_
          refine WD2.call rfl rfl rfl rfl rfl ?_
          refine WF.mono (code_wf (ss.flatMap setB) _ _ _ _ (hs6.rdB (i := 1) rfl) (by rw [setsB_length]; omega)) ?_
          rintro _ τc ⟨rfl, hxc⟩
          have hcl := codeL_length (ss.flatMap setB)
          rw [setsB_length] at hcl
          have hs7 := hs6.add' hxc rfl
          refine ⟨_, rfl, ?_⟩
          refine WD2.op0 rfl rfl (Ob.strAdd rfl rfl rfl (by simp only [List.length_append, List.length_cons, List.length_nil]; omega)) rfl ?_
          refine WD.ex rfl rfl (Ob.buildSlice (e := 9) (z := 0) hs7 rfl rfl rfl rfl rfl rfl fun _ => rfl) ?_
          rintro _ τ8 ⟨p49, rfl, hs8⟩
          refine ⟨_, rfl, ?_⟩
          replace hs8 : Hs [] σ τ8 [At.map rm (encM m), At.bs 5 pk (ss.flatMap setB).length kk (ss.flatMap setB), At.row r9 76 [.int .i64 4, .int .i64 0, .int .i64 0, .slice pk (ss.flatMap setB).length kk], At.sl 9 1 p49 5 5 ((lines5 m ss).flatMap encS)] := hs8
          refine WD.run 1 rfl ?_
          refine WD.nil ⟨reads_ok ⟨⟨.inl (by kernel_rfl), .inl (by kernel_rfl), .inr (opR_load rfl (hs6.ld 2 rfl rfl)), trivial⟩, ⟨.inl (by kernel_rfl), .inr (lookupS_ok rfl rfl rfl rfl (hs7.get (i := 0) rfl) rfl), .inr (lookupS_ok rfl rfl rfl rfl (hs6.get (i := 0) rfl) rfl), trivial⟩, ⟨.inl (by kernel_rfl), .inr (lookupS_ok rfl rfl rfl rfl (hs7.get (i := 0) rfl) rfl), .inr (lookupS_ok rfl rfl rfl rfl (hs6.get (i := 0) rfl) rfl), trivial⟩, ⟨.inl (by kernel_rfl), .inr (lookupS_ok rfl rfl rfl rfl (hs7.get (i := 0) rfl) rfl), .inr (lookupS_ok rfl rfl rfl rfl (hs6.get (i := 0) rfl) rfl), trivial⟩, trivial⟩, ?_⟩
          show WC _ _ _ _ _ _
          refine WC.seq ?_
          refine WC.seq ?_
          refine WC.region ?_
          refine WO.run 3 rfl ?_
          refine WO.nil ?_
          show WC _ _ _ _ _ _
          refine WC.block ?_
          refine WC.lp4 (fun (i : Nat) (ls : List B) (p1 : P3) (k1 : Nat) => [(11, .slice p1 ls.length k1), (52, .int .i64 (i : Int))]) [13, 53, 54, 55, 56, 57, 58, 59, 60, 61, 62, 63, 64, 65] (fun (i : Nat) (ls : List B) (p1 : P3) (k1 : Nat) => fun τ => Hs [] σ τ [At.map rm (encM m), At.bs 5 pk (ss.flatMap setB).length kk (ss.flatMap setB), At.row r9 76 [.int .i64 4, .int .i64 0, .int .i64 0, .slice pk (ss.flatMap setB).length kk], At.sl 9 1 p1 ls.length k1 (ls.flatMap encS)] ∧ i ≤ n - min n 4 ∧ ls = lines5 m ss ++ ((fs.drop (min n 4)).take i).map fline) (fun (i : Nat) (ls : List B) (p1 : P3) (k1 : Nat) => n - i) (0) (lines5 m ss) (p49) (5) (fun _ _ _ _ _ => rfl) rfl ⟨hs8, by omega, by simp⟩ ?_
          rintro i ls p1 k1 g τ ⟨hs, hi, hls⟩
          have hlsl := congrArg List.length hls; simp only [List.length_append, List.length_map, List.length_take, List.length_drop, lines5, List.length_cons, List.length_nil] at hlsl
          refine WC.seq ?_
          refine WC.region ?_
          refine WO.run 1 rfl ?_
          refine WO.nil ?_
          show WC _ _ _ _ _ _
          refine WC.seq ?_
          refine WC.cond rfl (fun c53 => ?_) (fun c53 => ?_)
          · replace c53 := of_decide_eq_true c53
            refine WC.skip ?_
            show WC _ _ _ _ _ _
            refine WC.seq ?_
            refine WC.block ?_
            refine WC.seq ?_
            refine WC.region ?_
            refine WO.ex rfl (Ob.indexN hrest rfl rfl rfl rfl rfl (by omega)) ?_
            rintro _ _ ⟨rfl, r54, o54, y54, rfl, hy54, hr54, hd54⟩
            refine ⟨_, rfl, ?_⟩
            have hb54 := hsm y54 (List.mem_of_mem_drop (List.mem_of_getElem? hy54))
            refine WO2.op rfl (Ob.load rfl rfl (hd54.ldf hs.fr List.not_mem_nil (k := 0) rfl rfl)) rfl ?_
            refine WO.ex rfl (Ob.alloc hs rfl rfl fun _ => rfl) ?_
            rintro _ τ9 ⟨r13, rfl, hs9⟩
            refine ⟨_, rfl, ?_⟩
            refine WO.ex rfl (Ob.store hs9 4 rfl rfl rfl rfl rfl rfl rfl rfl) ?_
            rintro _ τ10 ⟨rfl, hs10⟩
            refine ⟨_, rfl, ?_⟩
            clear hs9
            refine WO.nil ?_
            show WC _ _ _ _ _ _
            refine WC.region ?_
            refine WO.run 1 rfl ?_
            refine WO2.op rfl (Ob.fieldAddr (k := 0) rfl rfl rfl rfl rfl rfl) rfl ?_
            refine WO2.op rfl (Ob.load rfl rfl (hs10.ld 4 rfl rfl)) rfl ?_
            refine WO2.op rfl (Ob.strAdd rfl rfl rfl (by simp only [List.length_append, List.length_cons, List.length_nil]; omega)) rfl ?_
            refine WO2.op rfl (Ob.fieldAddr (k := 1) rfl rfl rfl rfl rfl rfl) rfl ?_
            refine WO2.op rfl (Ob.load rfl rfl (hs10.ld 4 rfl rfl)) rfl ?_
            refine WO2.op rfl (Ob.strAdd rfl rfl rfl (by simp only [List.length_append, List.length_cons, List.length_nil]; omega)) rfl ?_
            refine WO.ex rfl (Ob.buildSlice (e := 9) (z := 0) hs10 rfl rfl rfl rfl rfl rfl fun _ => rfl) ?_
            rintro _ τ11 ⟨p63, rfl, hs11⟩
            refine ⟨_, rfl, ?_⟩
            clear hs10
            refine WO.ex rfl (Ob.appL (enc := encS) (ys := [fline y54]) (e := 9) (z := 1) (b := 16) hs11 3 (by intro _; rfl) (by decide) rfl rfl rfl rfl rfl rfl (Rd.src (hs11.rd (i := 5) rfl)) (by first | rfl | exact RdL.len (hs11.rdL (i := 5) rfl (by intro _; rfl) (by decide))) (by simp only [List.length_append, List.length_cons, List.length_nil]; omega) fun _ _ => rfl) ?_
            rintro _ τ12 ⟨p64, k64, rfl, hs12⟩
            refine ⟨_, rfl, ?_⟩
            clear hs11
            replace hs12 := hs12.del 5 rfl rfl
            refine WO.run 1 rfl ?_
            refine WO.nil ?_
            show WC _ _ _ _ _ _
            refine WC.region ?_
            refine WO2.val (v' := .int .i64 ((i + 1 : Nat) : Int)) rfl rfl (iv_wrap (by omega) (by omega)) rfl ?_
            refine WO.run 1 rfl ?_
            refine WO.nil ?_
            exact ⟨i + 1, _, _, _, rfl, ⟨hs12.del 4 rfl rfl, by omega, by rw [take_succ_at hy54, List.map_append, hls]; simp⟩, by omega⟩
          · replace c53 := of_decide_eq_false c53
            refine WC.exit ?_
            show WC _ _ _ _ _ _
            refine WC.seq ?_
            refine WC.region ?_
            refine WO.run 1 rfl ?_
            refine WO2.call rfl rfl rfl rfl rfl ?_
            have hd4 : fs.drop (min n 4) = fs.drop 4 := by
              rcases Nat.le_total n 4 with h | h
              · rw [Nat.min_eq_left h, List.drop_of_length_le (by omega), List.drop_of_length_le (by omega)]
              · rw [Nat.min_eq_right h]
            have hfull : ls = lines5 m ss ++ (fs.drop 4).map fline := by rw [hls, hd4, List.take_of_length_le (by rw [List.length_drop]; omega)]
            have hT : Lib.join ls [13, 10] ++ [13, 10] ++ [13, 10] = askT fs ss m := by rw [hfull]; rfl
            have hTl := hlen _ m hp
            rw [← hT] at hTl
            have hTl2 := hTl
            simp only [List.length_append, List.length_cons, List.length_nil] at hTl2
            refine WF.extern rfl (join_ok (hs.rdL (i := 3) rfl (by intro _; rfl) (by decide)) (by omega) (by omega)) ?_
            refine ⟨_, rfl, ?_⟩
            refine WO2.op rfl (Ob.strAdd rfl rfl rfl (by simp only [List.length_append, List.length_cons, List.length_nil]; omega)) rfl ?_
            refine WO2.op rfl (Ob.strAdd rfl rfl rfl (by simp only [List.length_append, List.length_cons, List.length_nil]; omega)) rfl ?_
            refine WO.run 1 rfl ?_
            refine WO.nil ?_
            show WC _ _ _ _ _ _
            refine WC.seq ?_
            refine WC.seq ?_
            refine WC.region ?_
            refine WO.run 3 rfl ?_
            refine WO.nil ?_
            show WC _ _ _ _ _ _
            refine WC.cond rfl (fun c72 => ?_) (fun c72 => ?_)
            · replace c72 := of_decide_eq_true c72
              refine WC.seq ?_
              refine WC.region ?_
              refine WO.run 2 rfl ?_
              refine WO.nil ?_
              show WC _ _ _ _ _ _
              refine WC.ret ?_
              refine ⟨_, (res_tmp rfl (res_tmp rfl res_nil)), ?_⟩
              first
                | (have hx : askL fs ss = .no 5 := by simp only [askL, hr, if_true]
                   rw [hx]
                   exact ⟨rfl, hs.none⟩)
                | (have hx : askL fs ss = .no 5 := by simp [askL, hr, hp]
                   rw [hx]
                   exact ⟨rfl, hs.none⟩)
                | (have hx : askL fs ss = .no 5 := by simp [askL, hr, hp, c25]
                   rw [hx]
                   exact ⟨rfl, hs.none⟩)
                | (have hx : askL fs ss = .no 1 := by simp [askL, hr, hp, c25, hall]
                   rw [hx]
                   exact ⟨rfl, hs.none⟩)
                | (have hx : askL fs ss = .no 2 := by
                     rw [hT] at c72
                     simp only [askL, hr, hp, c25, hall]
                     simp
                     omega
                   rw [hx]
                   exact ⟨rfl, hs.none⟩)
                | (have hx : askL fs ss = .ok (askT fs ss m) := by
                     rw [hT] at c72
                     simp only [askL, hr, hp, c25, hall]
                     simp
                     omega
                   rw [hx, ← hT]
                   exact ⟨_, _, rfl, (((hs.del 0 rfl rfl).del 0 rfl rfl).del 0 rfl rfl).del 0 rfl rfl⟩)
            · replace c72 := of_decide_eq_false c72
              refine WC.skip ?_
              show WC _ _ _ _ _ _
              refine WC.seq ?_
              refine WC.region ?_
              refine WO.run 1 rfl ?_
              refine WO.ex rfl (Ob.ofStr hs rfl rfl rfl rfl rfl rfl fun _ => rfl) ?_
              rintro _ τ13 ⟨p74, rfl, hs13⟩
              refine ⟨_, rfl, ?_⟩
              refine WO.run 2 rfl ?_
              refine WO.nil ?_
              show WC _ _ _ _ _ _
              refine WC.ret ?_
              refine ⟨_, (res_tmp rfl (res_tmp rfl res_nil)), ?_⟩
              first
                | (have hx : askL fs ss = .no 5 := by simp only [askL, hr, if_true]
                   rw [hx]
                   exact ⟨rfl, hs13.none⟩)
                | (have hx : askL fs ss = .no 5 := by simp [askL, hr, hp]
                   rw [hx]
                   exact ⟨rfl, hs13.none⟩)
                | (have hx : askL fs ss = .no 5 := by simp [askL, hr, hp, c25]
                   rw [hx]
                   exact ⟨rfl, hs13.none⟩)
                | (have hx : askL fs ss = .no 1 := by simp [askL, hr, hp, c25, hall]
                   rw [hx]
                   exact ⟨rfl, hs13.none⟩)
                | (have hx : askL fs ss = .no 2 := by
                     rw [hT] at c72
                     simp only [askL, hr, hp, c25, hall]
                     simp
                     omega
                   rw [hx]
                   exact ⟨rfl, hs13.none⟩)
                | (have hx : askL fs ss = .ok (askT fs ss m) := by
                     rw [hT] at c72
                     simp only [askL, hr, hp, c25, hall]
                     simp
                     omega
                   rw [hx, ← hT]
                   exact ⟨_, _, rfl, (((hs13.del 0 rfl rfl).del 0 rfl rfl).del 0 rfl rfl).del 0 rfl rfl⟩)
        · rw [if_neg (by simp [hall])] at hq
          obtain ⟨rfl, hx⟩ := hq
          have hs14 := hs3.add' hx rfl
          refine ⟨_, rfl, ?_⟩
          refine WO.run 3 rfl ?_
          refine WO.ex rfl (Ob.alloc hs14 rfl rfl fun _ => rfl) ?_
          rintro _ τ15 ⟨r9, rfl, hs15⟩
          refine ⟨_, rfl, ?_⟩
          clear hs14
          refine WO.ex rfl (Ob.store hs15 1 rfl rfl rfl rfl rfl rfl rfl rfl) ?_
          rintro _ τ16 ⟨rfl, hs16⟩
          refine ⟨_, rfl, ?_⟩
          clear hs15
          refine WO.run 1 rfl ?_
          refine WO.nil ?_
          show WC _ _ _ _ _ _
          refine WC.seq ?_
          refine WC.seq ?_
          refine WC.region ?_
          refine WO.run 2 rfl ?_
          refine WO.nil ?_
          show WC _ _ _ _ _ _
          refine WC.cond rfl (fun _ => ?_) (fun hc => ?_)
          rotate_left
          · first | exact absurd hc (by decide) | (exfalso; simp_all; done)
          refine WC.seq ?_
          refine WC.region ?_
          refine WO.run 3 rfl ?_
          refine WO.nil ?_
          show WC _ _ _ _ _ _
          refine WC.ret ?_
          refine ⟨_, (res_tmp rfl (res_tmp rfl res_nil)), ?_⟩
          first
            | (have hx : askL fs ss = .no 5 := by simp only [askL, hr, if_true]
               rw [hx]
               exact ⟨rfl, hs16.none⟩)
            | (have hx : askL fs ss = .no 5 := by simp [askL, hr, hp]
               rw [hx]
               exact ⟨rfl, hs16.none⟩)
            | (have hx : askL fs ss = .no 5 := by simp [askL, hr, hp, c25]
               rw [hx]
               exact ⟨rfl, hs16.none⟩)
            | (have hx : askL fs ss = .no 1 := by simp [askL, hr, hp, c25, hall]
               rw [hx]
               exact ⟨rfl, hs16.none⟩)
            | (have hx : askL fs ss = .no 2 := by
                 rw [hT] at c72
                 simp only [askL, hr, hp, c25, hall]
                 simp
                 omega
               rw [hx]
               exact ⟨rfl, hs16.none⟩)
            | (have hx : askL fs ss = .ok (askT fs ss m) := by
                 rw [hT] at c72
                 simp only [askL, hr, hp, c25, hall]
                 simp
                 omega
               rw [hx, ← hT]
               exact ⟨_, _, rfl, (((hs16.del 0 rfl rfl).del 0 rfl rfl).del 0 rfl rfl).del 0 rfl rfl⟩)
end Go.Proofs.YtamplhegepgaeaaDoor
end
section
/- Walks of this layer's functions on the logical memory, part 12: lines are read. -/
open Go Go.LZ
namespace Go.Proofs.YtamplhegepgaeaaDoor
set_option maxRecDepth 10000
set_option linter.unusedSimpArgs false
set_option linter.unusedVariables false
theorem cut_lengths (s sep : List UInt8) : (Lib.cut s sep).1.length ≤ s.length ∧ (Lib.cut s sep).2.1.length ≤ s.length := by
  unfold Lib.cut
  split
  · simp only [List.length_take, List.length_drop]; omega
  · simp
def sHttp11 : List UInt8 := [72, 84, 84, 80, 47, 49, 46, 49]
def firstL (s : B) : B × B × Bool :=
  ((Lib.cut s [32]).1, (Lib.cut (Lib.cut s [32]).2.1 [32]).1, methodOk (Lib.cut s [32]).1 && pathOk (Lib.cut (Lib.cut s [32]).2.1 [32]).1 && decide ((Lib.cut (Lib.cut s [32]).2.1 [32]).2.1 = sHttp11))
theorem first_wf (s : B) (hs : s.length ≤ 1048576) (σ : LZ.H) : WF Tryd.prog ext 38 [.str s] σ (fun v σ' => v = .tuple [.str (firstL s).1, .str (firstL s).2.1, .bool (firstL s).2.2] ∧ σ' = σ) := by
  refine WF.body rfl Tryd.func38 rfl rfl ?_
  have h1 := cut_lengths s [32]
  have h2 := cut_lengths (Lib.cut s [32]).2.1 [32]
  refine WC.seq ?_
  refine WC.region ?_
  refine WO.run 3 rfl ?_
  refine WO.nil ?_
  show WC _ _ _ _ _ _
  refine WC.seq ?_
  refine WC.region ?_
  refine WO.run 1 rfl ?_
  refine WO2.call rfl rfl rfl rfl rfl ?_
  refine WF.extern rfl (cut_ok hs) ?_
  refine ⟨_, rfl, ?_⟩
  refine WO.run 7 rfl ?_
  refine WO.nil ?_
  show WC _ _ _ _ _ _
  refine WC.seq ?_
  refine WC.region ?_
  refine WO.run 1 rfl ?_
  refine WO2.call rfl rfl rfl rfl rfl ?_
  refine WF.extern rfl (cut_ok (by omega)) ?_
  refine ⟨_, rfl, ?_⟩
  refine WO.run 7 rfl ?_
  refine WO.nil ?_
  show WC _ _ _ _ _ _
  refine WC.seq ?_
  refine WC.region ?_
  refine WO.run 3 rfl ?_
  refine WO2.call rfl rfl rfl rfl rfl ?_
  refine WF.mono (method_wf _ (by omega) _) ?_
  rintro _ _ ⟨rfl, rfl⟩
  refine ⟨_, rfl, ?_⟩
  refine WO2.both rfl rfl (fun h27 => ?_) (fun h27 => ?_)
  · refine ⟨_, rfl, ?_⟩
    refine WO.run 1 rfl ?_
    refine WO2.call rfl rfl rfl rfl rfl ?_
    refine WF.mono (path_wf _ (by omega) _) ?_
    rintro _ _ ⟨rfl, rfl⟩
    refine ⟨_, rfl, ?_⟩
    refine WO.run 1 rfl ?_
    refine WO2.both rfl rfl (fun h31 => ?_) (fun h31 => ?_)
    · refine ⟨_, rfl, ?_⟩
      refine WO.run 6 rfl ?_
      refine WO.nil ?_
      show WC _ _ _ _ _ _
      refine WC.ret ?_
      refine ⟨_, (res_tmp rfl (res_tmp rfl (res_tmp rfl res_nil))), ?_⟩
      refine ⟨?_, rfl⟩
      have e : firstL s = ((Lib.cut s [32]).1, (Lib.cut (Lib.cut s [32]).2.1 [32]).1, methodOk (Lib.cut s [32]).1 && pathOk (Lib.cut (Lib.cut s [32]).2.1 [32]).1 && decide ((Lib.cut (Lib.cut s [32]).2.1 [32]).2.1 = sHttp11)) := rfl
      first
        | (have e31 : pathOk (Lib.cut (Lib.cut s [32]).2.1 [32]).1 = true := h31
           have e27 : methodOk (Lib.cut s [32]).1 = true := h27
           rw [e27, e31, Bool.true_and, Bool.true_and] at e
           rw [e]
           have e3 : ((Lib.cut (Lib.cut s [32]).2.1 [32]).2.1 == sHttp11) = decide ((Lib.cut (Lib.cut s [32]).2.1 [32]).2.1 = sHttp11) := by rw [Bool.eq_iff_iff]; simp
           exact congrArg (fun b => LV.tuple [.str (Lib.cut s [32]).1, .str (Lib.cut (Lib.cut s [32]).2.1 [32]).1, .bool b]) e3)
        | (have e31 : pathOk (Lib.cut (Lib.cut s [32]).2.1 [32]).1 = false := h31
           have e27 : methodOk (Lib.cut s [32]).1 = true := h27
           rw [e27, e31, Bool.true_and, Bool.false_and] at e
           rw [e]; rfl)
        | (have e27 : methodOk (Lib.cut s [32]).1 = false := h27
           rw [e27, Bool.false_and, Bool.false_and] at e
           rw [e]; rfl)
    · refine ⟨_, rfl, ?_⟩
      refine WO.run 6 rfl ?_
      refine WO.nil ?_
      show WC _ _ _ _ _ _
      refine WC.ret ?_
      refine ⟨_, (res_tmp rfl (res_tmp rfl (res_tmp rfl res_nil))), ?_⟩
      refine ⟨?_, rfl⟩
      have e : firstL s = ((Lib.cut s [32]).1, (Lib.cut (Lib.cut s [32]).2.1 [32]).1, methodOk (Lib.cut s [32]).1 && pathOk (Lib.cut (Lib.cut s [32]).2.1 [32]).1 && decide ((Lib.cut (Lib.cut s [32]).2.1 [32]).2.1 = sHttp11)) := rfl
      first
        | (have e31 : pathOk (Lib.cut (Lib.cut s [32]).2.1 [32]).1 = true := h31
           have e27 : methodOk (Lib.cut s [32]).1 = true := h27
           rw [e27, e31, Bool.true_and, Bool.true_and] at e
           rw [e]
           have e3 : ((Lib.cut (Lib.cut s [32]).2.1 [32]).2.1 == sHttp11) = decide ((Lib.cut (Lib.cut s [32]).2.1 [32]).2.1 = sHttp11) := by rw [Bool.eq_iff_iff]; simp
           exact congrArg (fun b => LV.tuple [.str (Lib.cut s [32]).1, .str (Lib.cut (Lib.cut s [32]).2.1 [32]).1, .bool b]) e3)
        | (have e31 : pathOk (Lib.cut (Lib.cut s [32]).2.1 [32]).1 = false := h31
           have e27 : methodOk (Lib.cut s [32]).1 = true := h27
           rw [e27, e31, Bool.true_and, Bool.false_and] at e
           rw [e]; rfl)
        | (have e27 : methodOk (Lib.cut s [32]).1 = false := h27
           rw [e27, Bool.false_and, Bool.false_and] at e
           rw [e]; rfl)
  · refine ⟨_, rfl, ?_⟩
    refine WO.run 10 rfl ?_
    refine WO.nil ?_
    show WC _ _ _ _ _ _
    refine WC.ret ?_
    refine ⟨_, (res_tmp rfl (res_tmp rfl (res_tmp rfl res_nil))), ?_⟩
    refine ⟨?_, rfl⟩
    have e : firstL s = ((Lib.cut s [32]).1, (Lib.cut (Lib.cut s [32]).2.1 [32]).1, methodOk (Lib.cut s [32]).1 && pathOk (Lib.cut (Lib.cut s [32]).2.1 [32]).1 && decide ((Lib.cut (Lib.cut s [32]).2.1 [32]).2.1 = sHttp11)) := rfl
    first
      | (have e31 : pathOk (Lib.cut (Lib.cut s [32]).2.1 [32]).1 = true := h31
         have e27 : methodOk (Lib.cut s [32]).1 = true := h27
         rw [e27, e31, Bool.true_and, Bool.true_and] at e
         rw [e]
         have e3 : ((Lib.cut (Lib.cut s [32]).2.1 [32]).2.1 == sHttp11) = decide ((Lib.cut (Lib.cut s [32]).2.1 [32]).2.1 = sHttp11) := by rw [Bool.eq_iff_iff]; simp
         exact congrArg (fun b => LV.tuple [.str (Lib.cut s [32]).1, .str (Lib.cut (Lib.cut s [32]).2.1 [32]).1, .bool b]) e3)
      | (have e31 : pathOk (Lib.cut (Lib.cut s [32]).2.1 [32]).1 = false := h31
         have e27 : methodOk (Lib.cut s [32]).1 = true := h27
         rw [e27, e31, Bool.true_and, Bool.false_and] at e
         rw [e]; rfl)
      | (have e27 : methodOk (Lib.cut s [32]).1 = false := h27
         rw [e27, Bool.false_and, Bool.false_and] at e
         rw [e]; rfl)
def smallC (c : UInt8) : UInt8 := if great c = true then UInt8.ofNat (c.toNat + 32) else c
theorem small_wf (s : B) (hs : s.length ≤ 1048576) (σ : LZ.H) : WF Tryd.prog ext 74 [.str s] σ (fun v σ' => v = .str (s.map smallC) ∧ Hs [] σ σ' []) := by
  refine WF.body rfl Tryd.func74 rfl rfl ?_
  have hs0 := Hs.nil σ
  refine WC.seq ?_
  refine WC.region ?_
  refine WO.run 1 rfl ?_
  refine WO.nil ?_
  show WC _ _ _ _ _ _
  refine WC.seq ?_
  refine WC.region ?_
  refine WO.run 1 rfl ?_
  refine WO.ex rfl (Ob.ofStr hs0 rfl rfl rfl rfl rfl rfl fun _ => rfl) ?_
  rintro _ τ1 ⟨p7, rfl, hs1⟩
  refine ⟨_, rfl, ?_⟩
  clear hs0
  refine WO.run 1 rfl ?_
  refine WO.nil ?_
  show WC _ _ _ _ _ _
  refine WC.seq ?_
  refine WC.seq ?_
  refine WC.region ?_
  refine WO.run 3 rfl ?_
  refine WO.nil ?_
  show WC _ _ _ _ _ _
  refine WC.block ?_
  refine WC.lp2 (fun (i : Nat) (b : B) => [(10, .int .i64 (i : Int))]) [4, 5, 11, 12, 13, 14, 15, 16, 17, 18, 19, 20, 21, 22, 23] (fun (i : Nat) (b : B) => fun τ => Hs [] σ τ [At.bs 5 p7 s.length s.length b] ∧ i ≤ s.length ∧ b = (s.take i).map smallC ++ s.drop i) (fun (i : Nat) (b : B) => s.length - i) (0) (s) (fun _ _ _ => rfl) rfl ⟨hs1, by omega, by simp⟩ ?_
  rintro i b g τ ⟨hsl, hi, hb⟩
  have hbl := congrArg List.length hb; simp only [List.length_append, List.length_map, List.length_take, List.length_drop] at hbl
  refine WC.seq ?_
  refine WC.region ?_
  refine WO.run 1 rfl ?_
  refine WO.nil ?_
  show WC _ _ _ _ _ _
  refine WC.seq ?_
  refine WC.cond rfl (fun c11 => ?_) (fun c11 => ?_)
  · replace c11 := of_decide_eq_true c11
    refine WC.skip ?_
    show WC _ _ _ _ _ _
    refine WC.seq ?_
    refine WC.block ?_
    refine WC.seq ?_
    refine WC.region ?_
    refine WO.run 1 rfl ?_
    refine WO.ex rfl (Ob.indexN ((hsl.rdB (i := 0) rfl).toL) rfl rfl rfl rfl rfl (by omega)) ?_
    rintro _ _ ⟨rfl, r13, o13, y13, rfl, hy13, hr13, hd13⟩
    refine ⟨_, rfl, ?_⟩
    have hsi : s[i]? = some y13 := by
      rw [hb, List.getElem?_append_right (by simp; omega)] at hy13
      simpa [List.length_take, show min i s.length = i by omega] using hy13
    have hy256 := y13.toNat_lt
    have hdrop : s.drop i = y13 :: s.drop (i + 1) := by
      rw [List.drop_eq_getElem_cons (by omega)]
      congr 1
      exact (List.getElem?_eq_some_iff.1 hsi).2
    refine WO2.op rfl (Ob.load rfl rfl (hd13.ld (k := 0) rfl rfl)) rfl ?_
    refine WO.run 2 rfl ?_
    refine WO.nil ?_
    show WC _ _ _ _ _ _
    refine WC.seq ?_
    refine WC.region ?_
    refine WO.run 1 rfl ?_
    refine WO2.call rfl rfl rfl rfl rfl ?_
    refine WF.mono (great_wf y13 _) ?_
    rintro _ _ ⟨rfl, rfl⟩
    refine ⟨_, rfl, ?_⟩
    refine WO.nil ?_
    show WC _ _ _ _ _ _
    refine WC.cond rfl (fun c16 => ?_) (fun c16 => ?_)
    · have hg : 65 ≤ y13.toNat ∧ y13.toNat ≤ 90 := by simpa [great] using c16
      refine WC.region ?_
      refine WO.run 3 rfl ?_
      refine WO2.val (v' := .int .u8 ((y13.toNat + 97 : Nat) : Int)) rfl rfl (by congr 1; show ((y13.toNat : Int) + 97) % 256 = _; omega) rfl ?_
      refine WO2.val (v' := .int .u8 ((UInt8.ofNat (y13.toNat + 32)).toNat : Int)) rfl rfl (by congr 1; show (((y13.toNat + 97 : Nat) : Int) - 65) % 256 = _; simp; omega) rfl ?_
      refine WO.ex rfl (Ob.indexOwn hsl 0 rfl rfl rfl rfl rfl rfl (by omega)) ?_
      rintro _ _ ⟨rfl, r22, o22, hp22, rfl⟩
      refine ⟨_, rfl, ?_⟩
      refine WO.ex rfl (Ob.storeB (b := UInt8.ofNat (y13.toNat + 32)) hsl 0 hp22 (by omega) rfl rfl rfl rfl rfl rfl) ?_
      rintro _ τ2 ⟨rfl, hs2⟩
      refine ⟨_, rfl, ?_⟩
      refine WO.nil ?_
      show WC _ _ _ _ _ _
      refine WC.region ?_
      refine WO2.val (v' := .int .i64 ((i + 1 : Nat) : Int)) rfl rfl (iv_wrap (by omega) (by omega)) rfl ?_
      refine WO.run 1 rfl ?_
      refine WO.nil ?_
      refine ⟨i + 1, _, rfl, ⟨hs2, by omega, ?_⟩, by omega⟩
      rw [take_succ_at hsi, List.map_append, hb, hdrop]
      first
        | (simp [smallC, c16, List.set_append, show min i s.length = i by omega]; done)
        | (simp [smallC, c16]; done)
    · refine WC.skip ?_
      show WC _ _ _ _ _ _
      refine WC.region ?_
      refine WO2.val (v' := .int .i64 ((i + 1 : Nat) : Int)) rfl rfl (iv_wrap (by omega) (by omega)) rfl ?_
      refine WO.run 1 rfl ?_
      refine WO.nil ?_
      refine ⟨i + 1, _, rfl, ⟨hsl, by omega, ?_⟩, by omega⟩
      rw [take_succ_at hsi, List.map_append, hb, hdrop]
      first
        | (simp [smallC, c16, List.set_append, show min i s.length = i by omega]; done)
        | (simp [smallC, c16]; done)
  · replace c11 := of_decide_eq_false c11
    refine WC.exit ?_
    show WC _ _ _ _ _ _
    refine WC.seq ?_
    refine WC.region ?_
    refine WO.run 1 rfl ?_
    refine WO2.op rfl (Ob.toStr (hsl.rd (i := 0) rfl) rfl rfl rfl rfl rfl) rfl ?_
    refine WO.run 1 rfl ?_
    refine WO.nil ?_
    show WC _ _ _ _ _ _
    refine WC.ret ?_
    refine ⟨_, (res_tmp rfl res_nil), ?_⟩
    refine ⟨?_, hsl.none⟩
    rw [hb, List.take_of_length_le (by omega), List.drop_of_length_le (by omega), List.append_nil]
    rfl
end Go.Proofs.YtamplhegepgaeaaDoor
end
section
/- Walks of this layer's functions on the logical memory, part 13: a line is read, and taken in. -/
open Go Go.LZ
namespace Go.Proofs.YtamplhegepgaeaaDoor
set_option maxRecDepth 10000
set_option linter.unusedSimpArgs false
set_option linter.unusedVariables false
theorem trim_length (s : B) (c : UInt8) : (Lib.trimLeftB s c).length ≤ s.length := by
  unfold Lib.trimLeftB
  induction s with
  | nil => simp
  | cons b s ih =>
    simp only [List.dropWhile_cons]
    split
    · simp; omega
    · simp
def lineF (s : B) : Fld := ⟨(Lib.cut s [58]).1.map smallC, Lib.trimLeftB (Lib.cut s [58]).2.1 32, false⟩
def lineOk (s : B) : Bool := (Lib.cut s [58]).2.2 && nameOk (lineF s).name && valueOk (lineF s).value && (lineF s).value.all text
theorem line_wf (s : B) (hs : s.length ≤ 1048576) (σ : LZ.H) : WF Tryd.prog ext 40 [.str s] σ (fun v σ' => v = .tuple [.agg (encF (lineF s)), .bool (lineOk s)] ∧ Hs [] σ σ' []) := by
  refine WF.body rfl Tryd.func40 rfl rfl ?_
  have hs0 := Hs.nil σ
  have h1 := cut_lengths s [58]
  have h2 := trim_length (Lib.cut s [58]).2.1 32
  have h3 : ((Lib.cut s [58]).1.map smallC).length ≤ 1048576 := by rw [List.length_map]; omega
  refine WC.seq ?_
  refine WC.region ?_
  refine WO.ex rfl (Ob.alloc hs0 rfl rfl fun _ => rfl) ?_
  rintro _ τ1 ⟨r2, rfl, hs1⟩
  refine ⟨_, rfl, ?_⟩
  clear hs0
  refine WO.run 1 rfl ?_
  refine WO.nil ?_
  show WC _ _ _ _ _ _
  refine WC.seq ?_
  refine WC.region ?_
  refine WO.run 1 rfl ?_
  refine WO2.call rfl rfl rfl rfl rfl ?_
  refine WF.extern rfl (cut_ok hs) ?_
  refine ⟨_, rfl, ?_⟩
  refine WO.run 7 rfl ?_
  refine WO.nil ?_
  show WC _ _ _ _ _ _
  refine WC.seq ?_
  refine WC.region ?_
  refine WO.run 1 rfl ?_
  refine WO2.call rfl rfl rfl rfl rfl ?_
  refine WF.mono (small_wf _ (by omega) _) ?_
  rintro _ τs ⟨rfl, hxs⟩
  have hs2 := hs1.add' hxs rfl
  refine ⟨_, rfl, ?_⟩
  refine WO.run 1 rfl ?_
  refine WO2.call rfl rfl rfl rfl rfl ?_
  refine WF.extern rfl rfl ?_
  refine ⟨_, rfl, ?_⟩
  refine WO.run 1 rfl ?_
  refine WO.ex rfl (Ob.alloc hs2 rfl rfl fun _ => rfl) ?_
  rintro _ τ3 ⟨r7, rfl, hs3⟩
  refine ⟨_, rfl, ?_⟩
  clear hs2
  refine WO.ex rfl (Ob.store hs3 1 rfl rfl rfl rfl rfl rfl rfl rfl) ?_
  rintro _ τ4 ⟨rfl, hs4⟩
  refine ⟨_, rfl, ?_⟩
  clear hs3
  refine WO.nil ?_
  show WC _ _ _ _ _ _
  refine WC.seq ?_
  refine WC.draw (by kernel_rfl) ?_
  refine WD2.op1 rfl rfl (Ob.load rfl rfl (hs4.ld 1 rfl rfl)) rfl ?_
  refine WD.run 1 rfl ?_
  refine WD2.both rfl rfl rfl (fun h21 => ?_) (fun h21 => ?_)
  · refine ⟨_, rfl, ?_⟩
    refine WD2.op0 rfl rfl (Ob.fieldAddr (k := 0) rfl rfl rfl rfl rfl rfl) rfl ?_
    refine WD2.op1 rfl rfl (Ob.load rfl rfl (hs4.ld 1 rfl rfl)) rfl ?_
    refine WD2.call rfl rfl rfl rfl rfl ?_
    refine WF.mono (name_wf _ (by omega) _) ?_
    rintro _ _ ⟨rfl, rfl⟩
    refine ⟨_, rfl, ?_⟩
    refine WD.run 1 rfl ?_
    refine WD2.both rfl rfl rfl (fun h26 => ?_) (fun h26 => ?_)
    · refine ⟨_, rfl, ?_⟩
      refine WD2.op0 rfl rfl (Ob.fieldAddr (k := 1) rfl rfl rfl rfl rfl rfl) rfl ?_
      refine WD2.op1 rfl rfl (Ob.load rfl rfl (hs4.ld 1 rfl rfl)) rfl ?_
      refine WD2.call rfl rfl rfl rfl rfl ?_
      refine WF.mono (value_wf _ (by omega) _) ?_
      rintro _ _ ⟨rfl, rfl⟩
      refine ⟨_, rfl, ?_⟩
      refine WD.run 1 rfl ?_
      refine WD2.both rfl rfl rfl (fun h31 => ?_) (fun h31 => ?_)
      · refine ⟨_, rfl, ?_⟩
        refine WD2.op0 rfl rfl (Ob.fieldAddr (k := 1) rfl rfl rfl rfl rfl rfl) rfl ?_
        refine WD2.op1 rfl rfl (Ob.load rfl rfl (hs4.ld 1 rfl rfl)) rfl ?_
        refine WD2.call rfl rfl rfl rfl rfl ?_
        refine WF.mono (all_wf text 65 text_wf _ (by omega) _) ?_
        rintro _ _ ⟨rfl, rfl⟩
        refine ⟨_, rfl, ?_⟩
        refine WD.run 1 rfl ?_
        refine WD.ex rfl rfl (Ob.store hs4 0 rfl rfl rfl rfl rfl rfl rfl rfl) ?_
        rintro _ τ5 ⟨rfl, hs5⟩
        refine ⟨_, rfl, ?_⟩
        refine WD.run 1 rfl ?_
        refine WD.nil ⟨reads_ok ⟨⟨.inl (by kernel_rfl), .inl (by kernel_rfl), .inr (opR_load rfl (hs4.ld 1 rfl rfl)), .inl (by kernel_rfl), .inl (by kernel_rfl), trivial⟩, ⟨.inl (by kernel_rfl), .inl (by kernel_rfl), .inl (by kernel_rfl), .inr (opR_load rfl (hs4.ld 1 rfl rfl)), .inl (by kernel_rfl), trivial⟩, ⟨.inl (by kernel_rfl), .inl (by kernel_rfl), .inl (by kernel_rfl), .inl (by kernel_rfl), .inr (opR_load rfl (hs4.ld 1 rfl rfl)), trivial⟩, ⟨.inl (by kernel_rfl), .inr (opR_load rfl (hs4.ld 1 rfl rfl)), .inr (opR_load rfl (hs4.ld 1 rfl rfl)), .inr (opR_load rfl (hs4.ld 1 rfl rfl)), .inr (opR_load rfl (hs4.ld 1 rfl rfl)), trivial⟩, trivial⟩, ?_⟩
        show WC _ _ _ _ _ _
        refine WC.ret ?_
        refine ⟨_, (res_cell rfl (hs5.ld 0 rfl rfl) (res_tmp rfl res_nil)), ?_⟩
        refine ⟨?_, hs5.none⟩
        have e : lineOk s = ((Lib.cut s [58]).2.2 && nameOk (lineF s).name && valueOk (lineF s).value && (lineF s).value.all text) := rfl
        first
          | (have e1 : (Lib.cut s [58]).2.2 = true := h21
             have e2 : nameOk (lineF s).name = true := h26
             have e3 : valueOk (lineF s).value = true := h31
             rw [e1, e2, e3, Bool.true_and, Bool.true_and, Bool.true_and] at e
             rw [e]; rfl)
          | (have e1 : (Lib.cut s [58]).2.2 = true := h21
             have e2 : nameOk (lineF s).name = true := h26
             have e3 : valueOk (lineF s).value = false := h31
             rw [e1, e2, e3, Bool.true_and, Bool.true_and, Bool.false_and] at e
             rw [e]; rfl)
          | (have e1 : (Lib.cut s [58]).2.2 = true := h21
             have e2 : nameOk (lineF s).name = false := h26
             rw [e1, e2, Bool.true_and, Bool.false_and, Bool.false_and] at e
             rw [e]; rfl)
          | (have e1 : (Lib.cut s [58]).2.2 = false := h21
             rw [e1, Bool.false_and, Bool.false_and, Bool.false_and] at e
             rw [e]; rfl)
      · refine ⟨_, rfl, ?_⟩
        refine WD.run 2 rfl ?_
        refine WD2.skip2 rfl rfl (by decide) ?_
        refine WD.run 1 rfl ?_
        refine WD.ex rfl rfl (Ob.store hs4 0 rfl rfl rfl rfl rfl rfl rfl rfl) ?_
        rintro _ τ6 ⟨rfl, hs6⟩
        refine ⟨_, rfl, ?_⟩
        refine WD.run 1 rfl ?_
        refine WD.nil ⟨reads_ok ⟨⟨.inl (by kernel_rfl), .inl (by kernel_rfl), .inl (by kernel_rfl), .inr (opR_load rfl (hs4.ld 1 rfl rfl)), .inl (by kernel_rfl), trivial⟩, ⟨.inl (by kernel_rfl), .inl (by kernel_rfl), .inl (by kernel_rfl), .inl (by kernel_rfl), .inr (opR_load rfl (hs4.ld 1 rfl rfl)), trivial⟩, ⟨.inl (by kernel_rfl), .inr (opR_load rfl (hs4.ld 1 rfl rfl)), .inr (opR_load rfl (hs4.ld 1 rfl rfl)), .inr (opR_load rfl (hs4.ld 1 rfl rfl)), .inr (opR_load rfl (hs4.ld 1 rfl rfl)), trivial⟩, trivial⟩, ?_⟩
        show WC _ _ _ _ _ _
        refine WC.ret ?_
        refine ⟨_, (res_cell rfl (hs6.ld 0 rfl rfl) (res_tmp rfl res_nil)), ?_⟩
        refine ⟨?_, hs6.none⟩
        have e : lineOk s = ((Lib.cut s [58]).2.2 && nameOk (lineF s).name && valueOk (lineF s).value && (lineF s).value.all text) := rfl
        first
          | (have e1 : (Lib.cut s [58]).2.2 = true := h21
             have e2 : nameOk (lineF s).name = true := h26
             have e3 : valueOk (lineF s).value = true := h31
             rw [e1, e2, e3, Bool.true_and, Bool.true_and, Bool.true_and] at e
             rw [e]; rfl)
          | (have e1 : (Lib.cut s [58]).2.2 = true := h21
             have e2 : nameOk (lineF s).name = true := h26
             have e3 : valueOk (lineF s).value = false := h31
             rw [e1, e2, e3, Bool.true_and, Bool.true_and, Bool.false_and] at e
             rw [e]; rfl)
          | (have e1 : (Lib.cut s [58]).2.2 = true := h21
             have e2 : nameOk (lineF s).name = false := h26
             rw [e1, e2, Bool.true_and, Bool.false_and, Bool.false_and] at e
             rw [e]; rfl)
          | (have e1 : (Lib.cut s [58]).2.2 = false := h21
             rw [e1, Bool.false_and, Bool.false_and, Bool.false_and] at e
             rw [e]; rfl)
    · refine ⟨_, rfl, ?_⟩
      refine WD.run 2 rfl ?_
      refine WD2.skip2 rfl rfl (by decide) ?_
      refine WD.run 4 rfl ?_
      refine WD2.skip2 rfl rfl (by decide) ?_
      refine WD.run 1 rfl ?_
      refine WD.ex rfl rfl (Ob.store hs4 0 rfl rfl rfl rfl rfl rfl rfl rfl) ?_
      rintro _ τ7 ⟨rfl, hs7⟩
      refine ⟨_, rfl, ?_⟩
      refine WD.run 1 rfl ?_
      refine WD.nil ⟨reads_ok ⟨⟨.inl (by kernel_rfl), .inl (by kernel_rfl), .inl (by kernel_rfl), .inl (by kernel_rfl), .inr (opR_load rfl (hs4.ld 1 rfl rfl)), trivial⟩, ⟨.inl (by kernel_rfl), .inr (opR_load rfl (hs4.ld 1 rfl rfl)), .inr (opR_load rfl (hs4.ld 1 rfl rfl)), .inr (opR_load rfl (hs4.ld 1 rfl rfl)), .inr (opR_load rfl (hs4.ld 1 rfl rfl)), trivial⟩, trivial⟩, ?_⟩
      show WC _ _ _ _ _ _
      refine WC.ret ?_
      refine ⟨_, (res_cell rfl (hs7.ld 0 rfl rfl) (res_tmp rfl res_nil)), ?_⟩
      refine ⟨?_, hs7.none⟩
      have e : lineOk s = ((Lib.cut s [58]).2.2 && nameOk (lineF s).name && valueOk (lineF s).value && (lineF s).value.all text) := rfl
      first
        | (have e1 : (Lib.cut s [58]).2.2 = true := h21
           have e2 : nameOk (lineF s).name = true := h26
           have e3 : valueOk (lineF s).value = true := h31
           rw [e1, e2, e3, Bool.true_and, Bool.true_and, Bool.true_and] at e
           rw [e]; rfl)
        | (have e1 : (Lib.cut s [58]).2.2 = true := h21
           have e2 : nameOk (lineF s).name = true := h26
           have e3 : valueOk (lineF s).value = false := h31
           rw [e1, e2, e3, Bool.true_and, Bool.true_and, Bool.false_and] at e
           rw [e]; rfl)
        | (have e1 : (Lib.cut s [58]).2.2 = true := h21
           have e2 : nameOk (lineF s).name = false := h26
           rw [e1, e2, Bool.true_and, Bool.false_and, Bool.false_and] at e
           rw [e]; rfl)
        | (have e1 : (Lib.cut s [58]).2.2 = false := h21
           rw [e1, Bool.false_and, Bool.false_and, Bool.false_and] at e
           rw [e]; rfl)
  · refine ⟨_, rfl, ?_⟩
    refine WD.run 2 rfl ?_
    refine WD2.skip2 rfl rfl (by decide) ?_
    refine WD.run 4 rfl ?_
    refine WD2.skip2 rfl rfl (by decide) ?_
    refine WD.run 4 rfl ?_
    refine WD2.skip2 rfl rfl (by decide) ?_
    refine WD.run 1 rfl ?_
    refine WD.ex rfl rfl (Ob.store hs4 0 rfl rfl rfl rfl rfl rfl rfl rfl) ?_
    rintro _ τ8 ⟨rfl, hs8⟩
    refine ⟨_, rfl, ?_⟩
    refine WD.run 1 rfl ?_
    refine WD.nil ⟨reads_ok ⟨⟨.inl (by kernel_rfl), .inr (opR_load rfl (hs4.ld 1 rfl rfl)), .inr (opR_load rfl (hs4.ld 1 rfl rfl)), .inr (opR_load rfl (hs4.ld 1 rfl rfl)), .inr (opR_load rfl (hs4.ld 1 rfl rfl)), trivial⟩, trivial⟩, ?_⟩
    show WC _ _ _ _ _ _
    refine WC.ret ?_
    refine ⟨_, (res_cell rfl (hs8.ld 0 rfl rfl) (res_tmp rfl res_nil)), ?_⟩
    refine ⟨?_, hs8.none⟩
    have e : lineOk s = ((Lib.cut s [58]).2.2 && nameOk (lineF s).name && valueOk (lineF s).value && (lineF s).value.all text) := rfl
    first
      | (have e1 : (Lib.cut s [58]).2.2 = true := h21
         have e2 : nameOk (lineF s).name = true := h26
         have e3 : valueOk (lineF s).value = true := h31
         rw [e1, e2, e3, Bool.true_and, Bool.true_and, Bool.true_and] at e
         rw [e]; rfl)
      | (have e1 : (Lib.cut s [58]).2.2 = true := h21
         have e2 : nameOk (lineF s).name = true := h26
         have e3 : valueOk (lineF s).value = false := h31
         rw [e1, e2, e3, Bool.true_and, Bool.true_and, Bool.false_and] at e
         rw [e]; rfl)
      | (have e1 : (Lib.cut s [58]).2.2 = true := h21
         have e2 : nameOk (lineF s).name = false := h26
         rw [e1, e2, Bool.true_and, Bool.false_and, Bool.false_and] at e
         rw [e]; rfl)
      | (have e1 : (Lib.cut s [58]).2.2 = false := h21
         rw [e1, Bool.false_and, Bool.false_and, Bool.false_and] at e
         rw [e]; rfl)
end Go.Proofs.YtamplhegepgaeaaDoor
end
section
/- Walks of this layer's functions on the logical memory, part 14: a line is taken in. -/
open Go Go.LZ
namespace Go.Proofs.YtamplhegepgaeaaDoor
set_option maxRecDepth 10000
set_option linter.unusedSimpArgs false
set_option linter.unusedVariables false
def nHost : B := [104, 111, 115, 116]
def nConn : B := [99, 111, 110, 110, 101, 99, 116, 105, 111, 110]
def nUpg : B := [117, 112, 103, 114, 97, 100, 101]
def nSet : B := [104, 116, 116, 112, 50, 45, 115, 101, 116, 116, 105, 110, 103, 115]
def four : List B := [nHost, nConn, nUpg, nSet]
def nLen : B := [99, 111, 110, 116, 101, 110, 116, 45, 108, 101, 110, 103, 116, 104]
def nTE : B := [116, 114, 97, 110, 115, 102, 101, 114, 45, 101, 110, 99, 111, 100, 105, 110, 103]
def nKA : B := [107, 101, 101, 112, 45, 97, 108, 105, 118, 101]
def nPC : B := [112, 114, 111, 120, 121, 45, 99, 111, 110, 110, 101, 99, 116, 105, 111, 110]
def none4 : List B := [nLen, nTE, nKA, nPC]
structure Rq where
  me : B
  pa : B
  fs : List Fld
  m : List (B × B)
  bad : Bool
def takesL (st : Rq) (f : Fld) : Rq :=
  if f.name ∈ four then { st with bad := st.bad || (getS f.name st.m).isSome, m := putS f.name f.value st.m }
  else if f.name ∈ none4 then { st with bad := true }
  else { st with fs := st.fs ++ [f] }
/-- A request that is being read: its struct, its fields, its map. -/
def AtsRq (r rm : Nat) (p : P3) (k : Nat) (st : Rq) : List At := [At.row r 85 [.str st.me, .str st.pa, .slice p st.fs.length k, .map (some rm), .bool st.bad], At.sl 60 3 p st.fs.length k (st.fs.flatMap encF), At.map rm (encM st.m)]
theorem takes_wf (st : Rq) (f : Fld) (r rm : Nat) (p : P3) (k : Nat) (σ : LZ.H) (h : Hp σ (AtsRq r rm p k st)) (hn : st.fs.length ≤ 16777216) :
    WF Tryd.prog ext 41 [.ptr (some (r, 0)), .agg (encF f)] σ (fun v σ' => ∃ p' k', v = .tuple [] ∧ Hs (Ss (AtsRq r rm p k st)) σ σ' (AtsRq r rm p' k' (takesL st f))) := by
  refine WF.body rfl Tryd.func41 rfl rfl ?_
  generalize hS : Ss (AtsRq r rm p k st) = S0
  have hs0 : Hs S0 σ σ [At.row r 85 [.str st.me, .str st.pa, .slice p st.fs.length k, .map (some rm), .bool st.bad], At.sl 60 3 p st.fs.length k (st.fs.flatMap encF), At.map rm (encM st.m)] := by rw [← hS]; exact Hs.start h
  refine WC.seq ?_
  refine WC.region ?_
  refine WO.ex rfl (Ob.box hs0 rfl rfl rfl rfl fun _ => rfl) ?_
  rintro _ τ1 ⟨r3, rfl, hs1⟩
  refine ⟨_, rfl, ?_⟩
  clear hs0
  refine WO.nil ?_
  show WC _ _ _ _ _ _
  refine WC.seq ?_
  refine WC.region ?_
  refine WO2.op rfl (Ob.fieldAddr (k := 0) rfl rfl rfl rfl rfl rfl) rfl ?_
  refine WO2.op rfl (Ob.load rfl rfl (hs1.ld 3 rfl rfl)) rfl ?_
  refine WO.nil ?_
  show WC _ _ _ _ _ _
  refine WC.block ?_
  refine WC.jn1 (fun (q : Bool) => [(18, .bool q)]) [19, 20, 21, 22] (fun (q : Bool) => fun τ => Hs S0 σ τ [At.row r 85 [.str st.me, .str st.pa, .slice p st.fs.length k, .map (some rm), .bool st.bad], At.sl 60 3 p st.fs.length k (st.fs.flatMap encF), At.map rm (encM st.m), At.row r3 60 [.str f.name, .str f.value, .bool f.never]] ∧ (q = true ↔ f.name ∈ four)) (fun _ _ => rfl) ?_ ?_
  · refine WC.seq ?_
    refine WC.region ?_
    refine WO.run 2 rfl ?_
    refine WO.nil ?_
    show WC _ _ _ _ _ _
    refine WC.cond rfl (fun c18 => ?_) (fun c18 => ?_)
    · replace c18 := show _ = ([104, 111, 115, 116] : List UInt8) from eq_of_beq c18
      refine WC.skip ?_
      refine ⟨_, rfl, hs1, ?_⟩
      simp_all [four, nHost, nConn, nUpg, nSet]
    · replace c18 := show _ ≠ ([104, 111, 115, 116] : List UInt8) from ne_of_beq_false c18
      refine WC.seq ?_
      refine WC.region ?_
      refine WO.run 2 rfl ?_
      refine WO.nil ?_
      show WC _ _ _ _ _ _
      refine WC.cond rfl (fun c18 => ?_) (fun c18 => ?_)
      · replace c18 := show _ = ([99, 111, 110, 110, 101, 99, 116, 105, 111, 110] : List UInt8) from eq_of_beq c18
        refine WC.skip ?_
        refine ⟨_, rfl, hs1, ?_⟩
        simp_all [four, nHost, nConn, nUpg, nSet]
      · replace c18 := show _ ≠ ([99, 111, 110, 110, 101, 99, 116, 105, 111, 110] : List UInt8) from ne_of_beq_false c18
        refine WC.seq ?_
        refine WC.region ?_
        refine WO.run 2 rfl ?_
        refine WO.nil ?_
        show WC _ _ _ _ _ _
        refine WC.cond rfl (fun c18 => ?_) (fun c18 => ?_)
        · replace c18 := show _ = ([117, 112, 103, 114, 97, 100, 101] : List UInt8) from eq_of_beq c18
          refine WC.skip ?_
          refine ⟨_, rfl, hs1, ?_⟩
          simp_all [four, nHost, nConn, nUpg, nSet]
        · replace c18 := show _ ≠ ([117, 112, 103, 114, 97, 100, 101] : List UInt8) from ne_of_beq_false c18
          refine WC.region ?_
          refine WO.run 2 rfl ?_
          refine WO.nil ?_
          refine ⟨_, rfl, hs1, ?_⟩
          simp_all [four, nHost, nConn, nUpg, nSet]
  rintro q g τ ⟨hsj, hq⟩
  refine WC.cond rfl (fun c18 => ?_) (fun c18 => ?_)
  · refine WC.seq ?_
    refine WC.seq ?_
    refine WC.draw (by kernel_rfl) ?_
    refine WD.run 2 rfl ?_
    refine WD2.op0 rfl rfl (Ob.fieldAddr (k := 3) rfl rfl rfl rfl rfl rfl) rfl ?_
    refine WD2.op1 rfl rfl (Ob.load rfl rfl (hsj.ld 0 rfl rfl)) rfl ?_
    refine WD2.op0 rfl rfl (Ob.fieldAddr (k := 0) rfl rfl rfl rfl rfl rfl) rfl ?_
    refine WD2.op1 rfl rfl (Ob.load rfl rfl (hsj.ld 3 rfl rfl)) rfl ?_
    refine WD2.op1 rfl rfl (Ob.lookupSk rfl rfl rfl rfl rfl (hsj.get (i := 2) rfl) rfl) rfl ?_
    refine WD.run 5 rfl ?_
    refine WD.nil ⟨reads_ok ⟨⟨.inr (lookupSk_ok rfl rfl rfl rfl (hsj.get (i := 2) rfl) rfl), trivial⟩, ⟨.inr (opR_load rfl (hsj.ld 3 rfl rfl)), trivial⟩, ⟨.inr (opR_load rfl (hsj.ld 0 rfl rfl)), trivial⟩, trivial⟩, ?_⟩
    show WC _ _ _ _ _ _
    refine WC.seq ?_
    refine WC.region ?_
    refine WO.run 1 rfl ?_
    refine WO.nil ?_
    show WC _ _ _ _ _ _
    refine WC.cond rfl (fun c33 => ?_) (fun c33 => ?_)
    · refine WC.region ?_
      refine WO.run 2 rfl ?_
      refine WO2.op rfl (Ob.fieldAddr (k := 4) rfl rfl rfl rfl rfl rfl) rfl ?_
      refine WO.ex rfl (Ob.store hsj 0 rfl rfl rfl rfl rfl rfl rfl rfl) ?_
      rintro _ τ2 ⟨rfl, hs2⟩
      refine ⟨_, rfl, ?_⟩
      refine WO.nil ?_
      show WC _ _ _ _ _ _
      refine WC.draw (by kernel_rfl) ?_
      refine WD.run 2 rfl ?_
      refine WD2.op0 rfl rfl (Ob.fieldAddr (k := 3) rfl rfl rfl rfl rfl rfl) rfl ?_
      refine WD2.op1 rfl rfl (Ob.load rfl rfl (hs2.ld 0 rfl rfl)) rfl ?_
      refine WD2.op0 rfl rfl (Ob.fieldAddr (k := 0) rfl rfl rfl rfl rfl rfl) rfl ?_
      refine WD2.op1 rfl rfl (Ob.load rfl rfl (hs2.ld 3 rfl rfl)) rfl ?_
      refine WD2.op0 rfl rfl (Ob.fieldAddr (k := 1) rfl rfl rfl rfl rfl rfl) rfl ?_
      refine WD2.op1 rfl rfl (Ob.load rfl rfl (hs2.ld 3 rfl rfl)) rfl ?_
      refine WD.ex rfl rfl (Ob.mapSet hs2 2 rfl rfl rfl rfl rfl rfl rfl (put_encM _ _ _) rfl) ?_
      rintro _ τ3 ⟨rfl, hs3⟩
      refine ⟨_, rfl, ?_⟩
      refine WD.nil ⟨reads_ok ⟨⟨.inl (by kernel_rfl), .inr (opR_load rfl (hs2.ld 3 rfl rfl)), trivial⟩, ⟨.inl (by kernel_rfl), .inr (opR_load rfl (hs2.ld 3 rfl rfl)), trivial⟩, ⟨.inl (by kernel_rfl), .inr (opR_load rfl (hs2.ld 0 rfl rfl)), trivial⟩, trivial⟩, ?_⟩
      refine ⟨_, res_nil, ?_⟩
      first
        | (have e : takesL st f = { st with bad := true, m := putS f.name f.value st.m } := by simp [takesL, hq.1 c18, c33]
           rw [e]
           exact ⟨_, _, rfl, hs3.del 3 rfl rfl⟩)
        | (have e : takesL st f = { st with m := putS f.name f.value st.m } := by simp [takesL, hq.1 c18, c33]
           rw [e]
           exact ⟨_, _, rfl, hs3.del 3 rfl rfl⟩)
        | (have n1 : f.name ∉ four := fun c => by have := hq.2 c; simp [c18] at this
           have e : takesL st f = { st with bad := true } := by simp [takesL, n1, hq2.1 c45]
           rw [e]
           exact ⟨_, _, rfl, hs3.del 3 rfl rfl⟩)
        | (have n1 : f.name ∉ four := fun c => by have := hq.2 c; simp [c18] at this
           have n2 : f.name ∉ none4 := fun c => by have := hq2.2 c; simp [c45] at this
           have e : takesL st f = { st with fs := st.fs ++ [f] } := by simp [takesL, n1, n2]
           rw [e]
           exact ⟨_, _, rfl, hs3.del 3 rfl rfl⟩)
    · refine WC.skip ?_
      show WC _ _ _ _ _ _
      refine WC.draw (by kernel_rfl) ?_
      refine WD.run 2 rfl ?_
      refine WD2.op0 rfl rfl (Ob.fieldAddr (k := 3) rfl rfl rfl rfl rfl rfl) rfl ?_
      refine WD2.op1 rfl rfl (Ob.load rfl rfl (hsj.ld 0 rfl rfl)) rfl ?_
      refine WD2.op0 rfl rfl (Ob.fieldAddr (k := 0) rfl rfl rfl rfl rfl rfl) rfl ?_
      refine WD2.op1 rfl rfl (Ob.load rfl rfl (hsj.ld 3 rfl rfl)) rfl ?_
      refine WD2.op0 rfl rfl (Ob.fieldAddr (k := 1) rfl rfl rfl rfl rfl rfl) rfl ?_
      refine WD2.op1 rfl rfl (Ob.load rfl rfl (hsj.ld 3 rfl rfl)) rfl ?_
      refine WD.ex rfl rfl (Ob.mapSet hsj 2 rfl rfl rfl rfl rfl rfl rfl (put_encM _ _ _) rfl) ?_
      rintro _ τ4 ⟨rfl, hs4⟩
      refine ⟨_, rfl, ?_⟩
      refine WD.nil ⟨reads_ok ⟨⟨.inl (by kernel_rfl), .inr (opR_load rfl (hsj.ld 3 rfl rfl)), trivial⟩, ⟨.inl (by kernel_rfl), .inr (opR_load rfl (hsj.ld 3 rfl rfl)), trivial⟩, ⟨.inl (by kernel_rfl), .inr (opR_load rfl (hsj.ld 0 rfl rfl)), trivial⟩, trivial⟩, ?_⟩
      refine ⟨_, res_nil, ?_⟩
      first
        | (have e : takesL st f = { st with bad := true, m := putS f.name f.value st.m } := by simp [takesL, hq.1 c18, c33]
           rw [e]
           exact ⟨_, _, rfl, hs4.del 3 rfl rfl⟩)
        | (have e : takesL st f = { st with m := putS f.name f.value st.m } := by simp [takesL, hq.1 c18, c33]
           rw [e]
           exact ⟨_, _, rfl, hs4.del 3 rfl rfl⟩)
        | (have n1 : f.name ∉ four := fun c => by have := hq.2 c; simp [c18] at this
           have e : takesL st f = { st with bad := true } := by simp [takesL, n1, hq2.1 c45]
           rw [e]
           exact ⟨_, _, rfl, hs4.del 3 rfl rfl⟩)
        | (have n1 : f.name ∉ four := fun c => by have := hq.2 c; simp [c18] at this
           have n2 : f.name ∉ none4 := fun c => by have := hq2.2 c; simp [c45] at this
           have e : takesL st f = { st with fs := st.fs ++ [f] } := by simp [takesL, n1, n2]
           rw [e]
           exact ⟨_, _, rfl, hs4.del 3 rfl rfl⟩)
  · refine WC.jn1 (fun (q2 : Bool) => [(45, .bool q2)]) [46, 47, 48, 49] (fun (q2 : Bool) => fun τ => Hs S0 σ τ [At.row r 85 [.str st.me, .str st.pa, .slice p st.fs.length k, .map (some rm), .bool st.bad], At.sl 60 3 p st.fs.length k (st.fs.flatMap encF), At.map rm (encM st.m), At.row r3 60 [.str f.name, .str f.value, .bool f.never]] ∧ (q2 = true ↔ f.name ∈ none4)) (fun _ _ => rfl) ?_ ?_
    · refine WC.seq ?_
      refine WC.region ?_
      refine WO.run 2 rfl ?_
      refine WO.nil ?_
      show WC _ _ _ _ _ _
      refine WC.cond rfl (fun c45 => ?_) (fun c45 => ?_)
      · replace c45 := show _ = ([99, 111, 110, 116, 101, 110, 116, 45, 108, 101, 110, 103, 116, 104] : List UInt8) from eq_of_beq c45
        refine WC.skip ?_
        refine ⟨_, rfl, hsj, ?_⟩
        clear hq
        simp_all [none4, nLen, nTE, nKA, nPC]
      · replace c45 := show _ ≠ ([99, 111, 110, 116, 101, 110, 116, 45, 108, 101, 110, 103, 116, 104] : List UInt8) from ne_of_beq_false c45
        refine WC.seq ?_
        refine WC.region ?_
        refine WO.run 2 rfl ?_
        refine WO.nil ?_
        show WC _ _ _ _ _ _
        refine WC.cond rfl (fun c45 => ?_) (fun c45 => ?_)
        · replace c45 := show _ = ([116, 114, 97, 110, 115, 102, 101, 114, 45, 101, 110, 99, 111, 100, 105, 110, 103] : List UInt8) from eq_of_beq c45
          refine WC.skip ?_
          refine ⟨_, rfl, hsj, ?_⟩
          clear hq
          simp_all [none4, nLen, nTE, nKA, nPC]
        · replace c45 := show _ ≠ ([116, 114, 97, 110, 115, 102, 101, 114, 45, 101, 110, 99, 111, 100, 105, 110, 103] : List UInt8) from ne_of_beq_false c45
          refine WC.seq ?_
          refine WC.region ?_
          refine WO.run 2 rfl ?_
          refine WO.nil ?_
          show WC _ _ _ _ _ _
          refine WC.cond rfl (fun c45 => ?_) (fun c45 => ?_)
          · replace c45 := show _ = ([107, 101, 101, 112, 45, 97, 108, 105, 118, 101] : List UInt8) from eq_of_beq c45
            refine WC.skip ?_
            refine ⟨_, rfl, hsj, ?_⟩
            clear hq
            simp_all [none4, nLen, nTE, nKA, nPC]
          · replace c45 := show _ ≠ ([107, 101, 101, 112, 45, 97, 108, 105, 118, 101] : List UInt8) from ne_of_beq_false c45
            refine WC.region ?_
            refine WO.run 2 rfl ?_
            refine WO.nil ?_
            refine ⟨_, rfl, hsj, ?_⟩
            clear hq
            simp_all [none4, nLen, nTE, nKA, nPC]
    rintro q2 g τ ⟨hsk, hq2⟩
    refine WC.cond rfl (fun c45 => ?_) (fun c45 => ?_)
    · refine WC.region ?_
      refine WO.run 2 rfl ?_
      refine WO2.op rfl (Ob.fieldAddr (k := 4) rfl rfl rfl rfl rfl rfl) rfl ?_
      refine WO.ex rfl (Ob.store hsk 0 rfl rfl rfl rfl rfl rfl rfl rfl) ?_
      rintro _ τ5 ⟨rfl, hs5⟩
      refine ⟨_, rfl, ?_⟩
      refine WO.nil ?_
      refine ⟨_, res_nil, ?_⟩
      first
        | (have e : takesL st f = { st with bad := true, m := putS f.name f.value st.m } := by simp [takesL, hq.1 c18, c33]
           rw [e]
           exact ⟨_, _, rfl, hs5.del 3 rfl rfl⟩)
        | (have e : takesL st f = { st with m := putS f.name f.value st.m } := by simp [takesL, hq.1 c18, c33]
           rw [e]
           exact ⟨_, _, rfl, hs5.del 3 rfl rfl⟩)
        | (have n1 : f.name ∉ four := fun c => by have := hq.2 c; simp [c18] at this
           have e : takesL st f = { st with bad := true } := by simp [takesL, n1, hq2.1 c45]
           rw [e]
           exact ⟨_, _, rfl, hs5.del 3 rfl rfl⟩)
        | (have n1 : f.name ∉ four := fun c => by have := hq.2 c; simp [c18] at this
           have n2 : f.name ∉ none4 := fun c => by have := hq2.2 c; simp [c45] at this
           have e : takesL st f = { st with fs := st.fs ++ [f] } := by simp [takesL, n1, n2]
           rw [e]
           exact ⟨_, _, rfl, hs5.del 3 rfl rfl⟩)
    · refine WC.draw (by kernel_rfl) ?_
      refine WD.run 3 rfl ?_
      refine WD2.op0 rfl rfl (Ob.fieldAddr (k := 2) rfl rfl rfl rfl rfl rfl) rfl ?_
      refine WD2.op1 rfl rfl (Ob.load rfl rfl (hsk.ld 0 rfl rfl)) rfl ?_
      refine WD2.op1 rfl rfl (Ob.load rfl rfl (hsk.ld 3 rfl rfl)) rfl ?_
      refine WD.ex rfl rfl (Ob.buildSlice (e := 60) (z := 2) hsk rfl rfl rfl rfl rfl rfl fun _ => rfl) ?_
      rintro _ τ6 ⟨p14, rfl, hs6⟩
      refine ⟨_, rfl, ?_⟩
      refine WD.ex rfl rfl (Ob.appL (enc := encF) (ys := [f]) (e := 60) (z := 3) (b := 40) hs6 1 (by intro _; rfl) (by decide) rfl rfl rfl rfl rfl rfl (Rd.src (hs6.rd (i := 4) rfl)) (by first | rfl | exact RdL.len (hs6.rdL (i := 4) rfl (by intro _; rfl) (by decide))) (by simp only [List.length_append, List.length_cons, List.length_nil]; omega) fun _ _ => rfl) ?_
      rintro _ τ7 ⟨p15, k15, rfl, hs7⟩
      refine ⟨_, rfl, ?_⟩
      replace hs7 := hs7.del 4 rfl rfl
      refine WD.run 1 rfl ?_
      refine WD2.op0 rfl rfl (Ob.fieldAddr (k := 2) rfl rfl rfl rfl rfl rfl) rfl ?_
      refine WD.ex rfl rfl (Ob.store hs7 0 rfl rfl rfl rfl rfl rfl rfl rfl) ?_
      rintro _ τ8 ⟨rfl, hs8⟩
      refine ⟨_, rfl, ?_⟩
      refine WD.nil ⟨reads_ok ⟨⟨.inl (by kernel_rfl), .inl (by kernel_rfl), .inl (by kernel_rfl), .inr (opR_load rfl (hsk.ld 3 rfl rfl)), trivial⟩, ⟨.inl (by kernel_rfl), .inl (by kernel_rfl), .inr (opR_load rfl (hs6.ld 0 rfl rfl)), .inr (opR_load rfl (hsk.ld 0 rfl rfl)), trivial⟩, trivial⟩, ?_⟩
      refine ⟨_, res_nil, ?_⟩
      first
        | (have e : takesL st f = { st with bad := true, m := putS f.name f.value st.m } := by simp [takesL, hq.1 c18, c33]
           rw [e]
           exact ⟨_, _, rfl, hs8.del 3 rfl rfl⟩)
        | (have e : takesL st f = { st with m := putS f.name f.value st.m } := by simp [takesL, hq.1 c18, c33]
           rw [e]
           exact ⟨_, _, rfl, hs8.del 3 rfl rfl⟩)
        | (have n1 : f.name ∉ four := fun c => by have := hq.2 c; simp [c18] at this
           have e : takesL st f = { st with bad := true } := by simp [takesL, n1, hq2.1 c45]
           rw [e]
           exact ⟨_, _, rfl, hs8.del 3 rfl rfl⟩)
        | (have n1 : f.name ∉ four := fun c => by have := hq.2 c; simp [c18] at this
           have n2 : f.name ∉ none4 := fun c => by have := hq2.2 c; simp [c45] at this
           have e : takesL st f = { st with fs := st.fs ++ [f] } := by simp [takesL, n1, n2]
           rw [e]
           exact ⟨_, _, rfl, hs8.del 3 rfl rfl⟩)
end Go.Proofs.YtamplhegepgaeaaDoor
end
section
/- Walks of this layer's functions on the logical memory, part 15: lines are gone over; what is asked. -/
open Go Go.LZ
namespace Go.Proofs.YtamplhegepgaeaaDoor
set_option maxRecDepth 10000
set_option linter.unusedSimpArgs false
set_option linter.unusedVariables false
theorem cut_shorter {s sep : B} (h : (Lib.cut s sep).2.2 = true) (hsep : 0 < sep.length) (hs : s ≠ []) : (Lib.cut s sep).2.1.length < s.length := by
  have hl : 0 < s.length := List.length_pos_iff.2 hs
  unfold Lib.cut at *
  split
  · simp only [List.length_drop]; omega
  · rename_i hc; rw [if_neg hc] at h; cases h
theorem cut_nil {sep : B} (hsep : 0 < sep.length) : (Lib.cut [] sep).2.2 = false := by
  cases sep with
  | nil => simp at hsep
  | cons c sep => rfl
theorem lines_wf (l rb : Nat) (bs : B) (p : P3) (n k : Nat) (σ : LZ.H) (hrb : Rd1 σ rb 0 [.slice p n k]) (hb : RdB σ p n k bs) (hn : n ≤ 1048576) (Inv : Nat → B → LZ.H → Prop) (Fin : LZ.H → Prop) (h0 : Inv 0 bs σ)
    (hstep : ∀ i rest τ, Inv i rest τ → rest.length ≤ 1048576 → (Lib.cut rest crlf).2.2 = true → WY Tryd.prog ext l [.int .i64 (i : Int), .str (Lib.cut rest crlf).1] τ fun v τ' => (v = .bool true ∧ Inv (i + 1) (Lib.cut rest crlf).2.1 τ' ∧ (Lib.cut rest crlf).1 ≠ []) ∨ (v = .bool false ∧ Fin τ')) :
    WF Tryd.prog ext 59 [.yield l, .ptr (some (rb, 0))] σ (fun _ τ => Fin τ ∨ ∃ i rest, Inv i rest τ ∧ (Lib.cut rest crlf).2.2 = false) := by
  refine WF.body rfl Tryd.func59 rfl rfl ?_
  have hlen := hb.len
  refine WC.seq ?_
  refine WC.region ?_
  refine WO2.op rfl (Ob.load rfl rfl (hrb.ld (k := 0) rfl rfl)) rfl ?_
  refine WO2.op rfl (Ob.toStr (hb) rfl rfl rfl rfl rfl) rfl ?_
  refine WO.run 1 rfl ?_
  refine WO.nil ?_
  show WC _ _ _ _ _ _
  refine WC.seq ?_
  refine WC.region ?_
  refine WO.run 1 rfl ?_
  refine WO.nil ?_
  show WC _ _ _ _ _ _
  refine WC.block ?_
  refine WC.lp2 (fun (i : Nat) (rest : B) => [(3, .str rest), (4, .int .i64 (i : Int))]) [5, 6, 7, 10, 11, 12, 13, 14, 15, 16, 17, 18, 19, 20, 21, 22, 23, 24, 25, 26, 27, 28, 29, 30, 31] (fun (i : Nat) (rest : B) => fun τ => Inv i rest τ ∧ i + rest.length ≤ 1048576) (fun (i : Nat) (rest : B) => rest.length) (0) (bs) (fun _ _ _ => rfl) rfl ⟨h0, by omega⟩ ?_
  rintro i rest g τ ⟨hinv, hir⟩
  refine WC.seq ?_
  refine WC.block ?_
  refine WC.seq ?_
  refine WC.region ?_
  refine WO.run 1 rfl ?_
  refine WO2.call rfl rfl rfl rfl rfl ?_
  refine WF.extern rfl (cut_ok (by omega)) ?_
  refine ⟨_, rfl, ?_⟩
  refine WO.run 7 rfl ?_
  refine WO.nil ?_
  show WC _ _ _ _ _ _
  refine WC.seq ?_
  refine WC.seq ?_
  refine WC.region ?_
  refine WO.run 2 rfl ?_
  refine WO2.both rfl rfl (fun h20 => ?_) (fun h20 => ?_)
  · refine ⟨_, rfl, ?_⟩
    replace h20 := not_true_eq h20
    skip
    refine WO.run 10 rfl ?_
    refine WO.nil ?_
    show WC _ _ _ _ _ _
    refine WC.cond rfl (fun _ => ?_) (fun hc => ?_)
    rotate_left
    · first | exact absurd hc (by decide) | (exfalso; simp_all; done)
    refine WC.ret ?_
    refine ⟨_, res_nil, ?_⟩
    first
      | exact .inl hfin
      | exact .inr ⟨i, rest, hinv, h20⟩
  · refine ⟨_, rfl, ?_⟩
    replace h20 := not_false_eq h20
    refine WO.run 3 rfl ?_
    refine WO2.yield rfl rfl rfl rfl rfl ?_
    have hok : (Lib.cut rest crlf).2.2 = true := h20
    have hne : rest ≠ [] := fun e => by rw [e, cut_nil (by decide)] at hok; cases hok
    have hsh := cut_shorter hok (by decide) hne
    refine WY.mono (hstep i rest _ hinv (by omega) hok) ?_
    rintro v τy (⟨rfl, hinv2, hln⟩ | ⟨rfl, hfin⟩)
    · skip
      refine ⟨_, rfl, ?_⟩
      refine WO.run 6 rfl ?_
      refine WO.nil ?_
      show WC _ _ _ _ _ _
      refine WC.cond rfl (fun c30 => ?_) (fun c30 => ?_)
      · replace c30 := show _ = ([] : List UInt8) from eq_of_beq c30
        exact absurd c30 hln
      · replace c30 := show _ ≠ ([] : List UInt8) from ne_of_beq_false c30
        refine WC.skip ?_
        show WC _ _ _ _ _ _
        refine WC.region ?_
        refine WO.run 2 rfl ?_
        refine WO.nil ?_
        show WC _ _ _ _ _ _
        refine WC.region ?_
        refine WO.run 1 rfl ?_
        refine WO2.val (v' := .int .i64 ((i + 1 : Nat) : Int)) rfl rfl (iv_wrap (by omega) (by omega)) rfl ?_
        refine WO.run 1 rfl ?_
        refine WO.nil ?_
        exact ⟨i + 1, (Lib.cut rest crlf).2.1, rfl, ⟨hinv2, by omega⟩, hsh⟩
    · skip
      refine ⟨_, rfl, ?_⟩
      refine WO.run 6 rfl ?_
      refine WO.nil ?_
      show WC _ _ _ _ _ _
      refine WC.cond rfl (fun _ => ?_) (fun hc => ?_)
      rotate_left
      · first | exact absurd hc (by decide) | (exfalso; simp_all; done)
      refine WC.ret ?_
      refine ⟨_, res_nil, ?_⟩
      first
        | exact .inl hfin
        | exact .inr ⟨i, rest, hinv, h20⟩
end Go.Proofs.YtamplhegepgaeaaDoor
end
section
/- Walks of this layer's functions on the logical memory, part 16: what a whole request asks. -/
open Go Go.LZ
namespace Go.Proofs.YtamplhegepgaeaaDoor
set_option maxRecDepth 10000
set_option linter.unusedSimpArgs false
set_option linter.unusedVariables false
theorem linesF_wf (p : P3) (n k : Nat) (σ : LZ.H) : WF Tryd.prog ext 31 [.slice p n k] σ (fun v σ' => ∃ r, v = .func 59 [.ptr (some (r, 0))] ∧ Hs [] σ σ' [At.row r 24 [.slice p n k]]) := by
  refine WF.body rfl Tryd.func31 rfl rfl ?_
  have hs0 := Hs.nil σ
  refine WC.seq ?_
  refine WC.region ?_
  refine WO.ex rfl (Ob.box hs0 rfl rfl rfl rfl fun _ => rfl) ?_
  rintro _ τ1 ⟨r1, rfl, hs1⟩
  refine ⟨_, rfl, ?_⟩
  clear hs0
  refine WO.run 1 rfl ?_
  refine WO.nil ?_
  show WC _ _ _ _ _ _
  refine WC.seq ?_
  refine WC.region ?_
  refine WO.run 2 rfl ?_
  refine WO.nil ?_
  show WC _ _ _ _ _ _
  refine WC.ret ?_
  refine ⟨_, (res_tmp rfl res_nil), ?_⟩
  exact ⟨r1, rfl, hs1⟩
theorem dstep_length : ∀ (s : B) (st st' : List UInt8 × Nat × Nat), runL dstep st s = some st' → st'.1.length ≤ st.1.length + s.length
  | [], st, st', h => by simp only [runL, Option.some.injEq] at h; rw [← h]; simp
  | c :: s, st, st', h => by
    simp only [runL] at h
    obtain ⟨s1, h1, h2⟩ := Option.bind_eq_some_iff.1 h
    have := dstep_length s s1 st' h2
    have h3 : s1.1.length ≤ st.1.length + 1 := by
      unfold dstep at h1
      split at h1
      · cases h1
      · split at h1
        · obtain rfl := Option.some.inj h1; simp
        · obtain rfl := Option.some.inj h1; simp
    rw [List.length_cons]
    omega
theorem decodeL_length {s d : B} (h : decodeL s = some d) : d.length ≤ s.length := by
  unfold decodeL at h
  split at h
  · cases h
  · rename_i out w b hr
    split at h
    · cases h
    · obtain rfl := Option.some.inj h
      simpa using dstep_length s _ _ hr
def sHow : B := [85, 112, 103, 114, 97, 100, 101, 44, 32, 72, 84, 84, 80, 50, 45, 83, 101, 116, 116, 105, 110, 103, 115]
def sH2c : B := [104, 50, 99]
def askedF (st : Rq) : List Fld := [⟨kMethod, st.me, false⟩, ⟨kScheme, sHttp, false⟩, ⟨kAuth, val nHost st.m, false⟩, ⟨kPath, st.pa, false⟩] ++ st.fs
inductive AskedR where
  | form
  | ok (fs : List Fld) (ss : List Stg) (used : Nat)
def askedBad (st : Rq) (used : Nat) (d : B) : Prop := st.bad = true ∨ (getS nSet st.m).isSome = false ∨ d.length % 6 ≠ 0 ∨ val nHost st.m = [] ∨ (val nHost st.m).all graph = false ∨ val nConn st.m ≠ sHow ∨ val nUpg st.m ≠ sH2c ∨ 16384 < used
instance (st : Rq) (used : Nat) (d : B) : Decidable (askedBad st used d) := by unfold askedBad; infer_instance
def askedL (st : Rq) (used : Nat) : AskedR := match decodeL (val nSet st.m) with
  | none => .form
  | some d => if askedBad st used d then .form else if requestOk (askedF st) = false then .form else .ok (askedF st) (setsR d) used
theorem setsR_length (bs : B) : (setsR bs).length * 6 ≤ bs.length := by
  match bs with
  | a :: b :: c :: d :: e :: f :: r => have := setsR_length r; simp only [setsR, List.length_cons]; omega
  | [] | [_] | [_, _] | [_, _, _] | [_, _, _, _] | [_, _, _, _, _] => simp [setsR]
theorem asked_wf (st : Rq) (used r rm : Nat) (p : P3) (k : Nat) (σ : LZ.H) (h : Hp σ (AtsRq r rm p k st)) (hn : st.fs.length ≤ 1000000) (hm : smallM 1048576 st.m) (hf : smallF 1048576 st.fs) (hme : st.me.length ≤ 1048576) (hpa : st.pa.length ≤ 1048576) (hu : used ≤ 1099511627776) :
    WF Tryd.prog ext 39 [.ptr (some (r, 0)), .int .i64 (used : Int)] σ (fun v σ' => match askedL st used with
      | .form => v = .tuple [.agg [.slice none 0 0, .slice none 0 0, .int .i64 0], .int .i64 4] ∧ Hs (Ss (AtsRq r rm p k st)) σ σ' (AtsRq r rm p k st)
      | .ok fs ss u => ∃ p1 k1 p2 k2, v = .tuple [.agg [.slice p1 fs.length k1, .slice p2 ss.length k2, .int .i64 (u : Int)], .int .i64 0] ∧ Hs (Ss (AtsRq r rm p k st)) σ σ' (AtsRq r rm p k st ++ [At.sl 62 2 p2 ss.length k2 (ss.flatMap encT), At.sl 60 3 p1 fs.length k1 (fs.flatMap encF)])) := by
  refine WF.body rfl Tryd.func39 rfl rfl ?_
  generalize hS : Ss (AtsRq r rm p k st) = S0
  have hs0 : Hs S0 σ σ [At.row r 85 [.str st.me, .str st.pa, .slice p st.fs.length k, .map (some rm), .bool st.bad], At.sl 60 3 p st.fs.length k (st.fs.flatMap encF), At.map rm (encM st.m)] := by rw [← hS]; exact Hs.start h
  have hmH : ((getS [104, 111, 115, 116] st.m).getD []).length ≤ 1048576 := hm.val nHost
  have hmS : ((getS [104, 116, 116, 112, 50, 45, 115, 101, 116, 116, 105, 110, 103, 115] st.m).getD []).length ≤ 1048576 := hm.val nSet
  refine WC.seq ?_
  refine WC.region ?_
  refine WO.ex rfl (Ob.alloc hs0 rfl rfl fun _ => rfl) ?_
  rintro _ τ1 ⟨r4, rfl, hs1⟩
  refine ⟨_, rfl, ?_⟩
  clear hs0
  refine WO.run 1 rfl ?_
  refine WO.nil ?_
  show WC _ _ _ _ _ _
  refine WC.seq ?_
  refine WC.region ?_
  refine WO.run 2 rfl ?_
  refine WO2.op rfl (Ob.fieldAddr (k := 3) rfl rfl rfl rfl rfl rfl) rfl ?_
  refine WO2.op rfl (Ob.load rfl rfl (hs1.ld 0 rfl rfl)) rfl ?_
  refine WO2.op rfl (Ob.lookupS rfl rfl rfl rfl rfl (hs1.get (i := 2) rfl) rfl) rfl ?_
  refine WO.run 1 rfl ?_
  refine WO.nil ?_
  show WC _ _ _ _ _ _
  refine WC.seq ?_
  refine WC.region ?_
  refine WO.run 2 rfl ?_
  refine WO2.op rfl (Ob.fieldAddr (k := 3) rfl rfl rfl rfl rfl rfl) rfl ?_
  refine WO2.op rfl (Ob.load rfl rfl (hs1.ld 0 rfl rfl)) rfl ?_
  refine WO2.op rfl (Ob.lookupSk rfl rfl rfl rfl rfl (hs1.get (i := 2) rfl) rfl) rfl ?_
  refine WO.run 5 rfl ?_
  refine WO.nil ?_
  show WC _ _ _ _ _ _
  refine WC.seq ?_
  refine WC.region ?_
  refine WO.run 1 rfl ?_
  refine WO2.call rfl rfl rfl rfl rfl ?_
  refine WF.mono (decode_wf (val nSet st.m) (by have := hm.val nSet; omega) _) ?_
  intro v τd hq
  rcases hd : decodeL (val nSet st.m) with _ | d
  · rw [hd] at hq
    obtain ⟨rfl, hx⟩ := hq
    have hs2 := hs1.add' hx rfl
    refine ⟨_, rfl, ?_⟩
    refine WO.run 5 rfl ?_
    refine WO.nil ?_
    show WC _ _ _ _ _ _
    refine WC.seq ?_
    refine WC.seq ?_
    refine WC.region ?_
    refine WO.run 2 rfl ?_
    refine WO2.op rfl (Ob.fieldAddr (k := 4) rfl rfl rfl rfl rfl rfl) rfl ?_
    refine WO2.op rfl (Ob.load rfl rfl (hs2.ld 0 rfl rfl)) rfl ?_
    refine WO2.both rfl rfl (fun h36 => ?_) (fun h36 => ?_)
    · refine ⟨_, rfl, ?_⟩
      refine WO.run 42 rfl ?_
      refine WO.nil ?_
      show WC _ _ _ _ _ _
      refine WC.cond rfl (fun _ => ?_) (fun hc => ?_)
      rotate_left
      · first | exact absurd hc (by decide) | (exfalso; simp_all; done)
      refine WC.seq ?_
      refine WC.region ?_
      refine WO.run 1 rfl ?_
      refine WO.ex rfl (Ob.store hs2 3 rfl rfl rfl rfl rfl rfl rfl rfl) ?_
      rintro _ τ3 ⟨rfl, hs3⟩
      refine ⟨_, rfl, ?_⟩
      clear hs2
      refine WO.run 1 rfl ?_
      refine WO.nil ?_
      show WC _ _ _ _ _ _
      refine WC.ret ?_
      refine ⟨_, (res_cell rfl (hs3.ld 3 rfl rfl) (res_tmp rfl res_nil)), ?_⟩
      first
        | (have hx : askedL st used = .form := by simp only [askedL, hd]
           rw [hx]
           have hf := hs3.take 3
           exact ⟨rfl, hf⟩)
        | (have hx : askedL st used = .form := by
             simp only [askedL, hd]
             rw [if_pos]
             first
               | exact .inl h36
               | exact .inr (.inl h40)
               | exact .inr (.inr (.inl (by omega)))
               | exact .inr (.inr (.inr (.inl h54)))
               | exact .inr (.inr (.inr (.inr (.inl h59))))
               | exact .inr (.inr (.inr (.inr (.inr (.inl h67)))))
               | exact .inr (.inr (.inr (.inr (.inr (.inr (.inl h75))))))
               | exact .inr (.inr (.inr (.inr (.inr (.inr (.inr (by omega)))))))
           rw [hx]
           have hf := hs3.take 3
           exact ⟨rfl, hf⟩)
        | (have nb : ¬ askedBad st used d := by
             rintro (c | c | c | c | c | c | c | c)
             · exact absurd (h36.symm.trans c) (by decide)
             · exact absurd ((show (getS nSet st.m).isSome = true from h40).symm.trans c) (by decide)
             · omega
             · exact h54 c
             · exact absurd ((show (val nHost st.m).all graph = true from h59).symm.trans c) (by decide)
             · exact c h67
             · exact c h75
             · omega
           first
             | (have hr : requestOk (askedF st) = false := by
                  cases hr : requestOk (askedF st) with
                  | false => rfl
                  | true => rw [hr] at c107; simp at c107
                have hx : askedL st used = .form := by simp only [askedL, hd]; rw [if_neg nb, if_pos hr]
                rw [hx]
                have hf := hs3.take 3
                exact ⟨rfl, hf⟩)
             | (have hr : requestOk (askedF st) = true := by
                  cases hr : requestOk (askedF st) with
                  | true => rfl
                  | false => rw [hr] at c107; simp at c107
                have hx : askedL st used = .ok (askedF st) (setsR d) used := by simp only [askedL, hd]; rw [if_neg nb, if_neg (by simp [hr])]
                rw [hx]
                exact ⟨_, _, _, _, rfl, ((hs3.del 6 rfl rfl).del 4 rfl rfl).del 3 rfl rfl⟩))
    · refine ⟨_, rfl, ?_⟩
      refine WO.run 3 rfl ?_
      refine WO2.both rfl rfl (fun h40 => ?_) (fun h40 => ?_)
      · refine ⟨_, rfl, ?_⟩
        replace h40 := not_true_eq h40
        refine WO.run 38 rfl ?_
        refine WO.nil ?_
        show WC _ _ _ _ _ _
        refine WC.cond rfl (fun _ => ?_) (fun hc => ?_)
        rotate_left
        · first | exact absurd hc (by decide) | (exfalso; simp_all; done)
        refine WC.seq ?_
        refine WC.region ?_
        refine WO.run 1 rfl ?_
        refine WO.ex rfl (Ob.store hs2 3 rfl rfl rfl rfl rfl rfl rfl rfl) ?_
        rintro _ τ4 ⟨rfl, hs4⟩
        refine ⟨_, rfl, ?_⟩
        clear hs2
        refine WO.run 1 rfl ?_
        refine WO.nil ?_
        show WC _ _ _ _ _ _
        refine WC.ret ?_
        refine ⟨_, (res_cell rfl (hs4.ld 3 rfl rfl) (res_tmp rfl res_nil)), ?_⟩
        first
          | (have hx : askedL st used = .form := by simp only [askedL, hd]
             rw [hx]
             have hf := hs4.take 3
             exact ⟨rfl, hf⟩)
          | (have hx : askedL st used = .form := by
               simp only [askedL, hd]
               rw [if_pos]
               first
                 | exact .inl h36
                 | exact .inr (.inl h40)
                 | exact .inr (.inr (.inl (by omega)))
                 | exact .inr (.inr (.inr (.inl h54)))
                 | exact .inr (.inr (.inr (.inr (.inl h59))))
                 | exact .inr (.inr (.inr (.inr (.inr (.inl h67)))))
                 | exact .inr (.inr (.inr (.inr (.inr (.inr (.inl h75))))))
                 | exact .inr (.inr (.inr (.inr (.inr (.inr (.inr (by omega)))))))
             rw [hx]
             have hf := hs4.take 3
             exact ⟨rfl, hf⟩)
          | (have nb : ¬ askedBad st used d := by
               rintro (c | c | c | c | c | c | c | c)
               · exact absurd (h36.symm.trans c) (by decide)
               · exact absurd ((show (getS nSet st.m).isSome = true from h40).symm.trans c) (by decide)
               · omega
               · exact h54 c
               · exact absurd ((show (val nHost st.m).all graph = true from h59).symm.trans c) (by decide)
               · exact c h67
               · exact c h75
               · omega
             first
               | (have hr : requestOk (askedF st) = false := by
                    cases hr : requestOk (askedF st) with
                    | false => rfl
                    | true => rw [hr] at c107; simp at c107
                  have hx : askedL st used = .form := by simp only [askedL, hd]; rw [if_neg nb, if_pos hr]
                  rw [hx]
                  have hf := hs4.take 3
                  exact ⟨rfl, hf⟩)
               | (have hr : requestOk (askedF st) = true := by
                    cases hr : requestOk (askedF st) with
                    | true => rfl
                    | false => rw [hr] at c107; simp at c107
                  have hx : askedL st used = .ok (askedF st) (setsR d) used := by simp only [askedL, hd]; rw [if_neg nb, if_neg (by simp [hr])]
                  rw [hx]
                  exact ⟨_, _, _, _, rfl, ((hs4.del 6 rfl rfl).del 4 rfl rfl).del 3 rfl rfl⟩))
      · refine ⟨_, rfl, ?_⟩
        replace h40 := not_false_eq h40
        refine WO.run 38 rfl ?_
        refine WO.nil ?_
        show WC _ _ _ _ _ _
        refine WC.cond rfl (fun _ => ?_) (fun hc => ?_)
        rotate_left
        · first | exact absurd hc (by decide) | (exfalso; simp_all; done)
        refine WC.seq ?_
        refine WC.region ?_
        refine WO.run 1 rfl ?_
        refine WO.ex rfl (Ob.store hs2 3 rfl rfl rfl rfl rfl rfl rfl rfl) ?_
        rintro _ τ5 ⟨rfl, hs5⟩
        refine ⟨_, rfl, ?_⟩
        clear hs2
        refine WO.run 1 rfl ?_
        refine WO.nil ?_
        show WC _ _ _ _ _ _
        refine WC.ret ?_
        refine ⟨_, (res_cell rfl (hs5.ld 3 rfl rfl) (res_tmp rfl res_nil)), ?_⟩
        first
          | (have hx : askedL st used = .form := by simp only [askedL, hd]
             rw [hx]
             have hf := hs5.take 3
             exact ⟨rfl, hf⟩)
          | (have hx : askedL st used = .form := by
               simp only [askedL, hd]
               rw [if_pos]
               first
                 | exact .inl h36
                 | exact .inr (.inl h40)
                 | exact .inr (.inr (.inl (by omega)))
                 | exact .inr (.inr (.inr (.inl h54)))
                 | exact .inr (.inr (.inr (.inr (.inl h59))))
                 | exact .inr (.inr (.inr (.inr (.inr (.inl h67)))))
                 | exact .inr (.inr (.inr (.inr (.inr (.inr (.inl h75))))))
                 | exact .inr (.inr (.inr (.inr (.inr (.inr (.inr (by omega)))))))
             rw [hx]
             have hf := hs5.take 3
             exact ⟨rfl, hf⟩)
          | (have nb : ¬ askedBad st used d := by
               rintro (c | c | c | c | c | c | c | c)
               · exact absurd (h36.symm.trans c) (by decide)
               · exact absurd ((show (getS nSet st.m).isSome = true from h40).symm.trans c) (by decide)
               · omega
               · exact h54 c
               · exact absurd ((show (val nHost st.m).all graph = true from h59).symm.trans c) (by decide)
               · exact c h67
               · exact c h75
               · omega
             first
               | (have hr : requestOk (askedF st) = false := by
                    cases hr : requestOk (askedF st) with
                    | false => rfl
                    | true => rw [hr] at c107; simp at c107
                  have hx : askedL st used = .form := by simp only [askedL, hd]; rw [if_neg nb, if_pos hr]
                  rw [hx]
                  have hf := hs5.take 3
                  exact ⟨rfl, hf⟩)
               | (have hr : requestOk (askedF st) = true := by
                    cases hr : requestOk (askedF st) with
                    | true => rfl
                    | false => rw [hr] at c107; simp at c107
                  have hx : askedL st used = .ok (askedF st) (setsR d) used := by simp only [askedL, hd]; rw [if_neg nb, if_neg (by simp [hr])]
                  rw [hx]
                  exact ⟨_, _, _, _, rfl, ((hs5.del 6 rfl rfl).del 4 rfl rfl).del 3 rfl rfl⟩))
  · rw [hd] at hq
    obtain ⟨pd, kd, rfl, hx⟩ := hq
    have hdl := decodeL_length hd
    have hdn := hm.val nSet
    have hs6 := hs1.add' hx rfl
    refine ⟨_, rfl, ?_⟩
    refine WO.run 5 rfl ?_
    refine WO.nil ?_
    show WC _ _ _ _ _ _
    refine WC.seq ?_
    refine WC.seq ?_
    refine WC.region ?_
    refine WO.run 2 rfl ?_
    refine WO2.op rfl (Ob.fieldAddr (k := 4) rfl rfl rfl rfl rfl rfl) rfl ?_
    refine WO2.op rfl (Ob.load rfl rfl (hs6.ld 0 rfl rfl)) rfl ?_
    refine WO2.both rfl rfl (fun h36 => ?_) (fun h36 => ?_)
    · refine ⟨_, rfl, ?_⟩
      refine WO.run 42 rfl ?_
      refine WO.nil ?_
      show WC _ _ _ _ _ _
      refine WC.cond rfl (fun _ => ?_) (fun hc => ?_)
      rotate_left
      · first | exact absurd hc (by decide) | (exfalso; simp_all; done)
      refine WC.seq ?_
      refine WC.region ?_
      refine WO.run 1 rfl ?_
      refine WO.ex rfl (Ob.store hs6 3 rfl rfl rfl rfl rfl rfl rfl rfl) ?_
      rintro _ τ7 ⟨rfl, hs7⟩
      refine ⟨_, rfl, ?_⟩
      clear hs6
      refine WO.run 1 rfl ?_
      refine WO.nil ?_
      show WC _ _ _ _ _ _
      refine WC.ret ?_
      refine ⟨_, (res_cell rfl (hs7.ld 3 rfl rfl) (res_tmp rfl res_nil)), ?_⟩
      first
        | (have hx : askedL st used = .form := by simp only [askedL, hd]
           rw [hx]
           have hf := hs7.take 3
           exact ⟨rfl, hf⟩)
        | (have hx : askedL st used = .form := by
             simp only [askedL, hd]
             rw [if_pos]
             first
               | exact .inl h36
               | exact .inr (.inl h40)
               | exact .inr (.inr (.inl (by omega)))
               | exact .inr (.inr (.inr (.inl h54)))
               | exact .inr (.inr (.inr (.inr (.inl h59))))
               | exact .inr (.inr (.inr (.inr (.inr (.inl h67)))))
               | exact .inr (.inr (.inr (.inr (.inr (.inr (.inl h75))))))
               | exact .inr (.inr (.inr (.inr (.inr (.inr (.inr (by omega)))))))
           rw [hx]
           have hf := hs7.take 3
           exact ⟨rfl, hf⟩)
        | (have nb : ¬ askedBad st used d := by
             rintro (c | c | c | c | c | c | c | c)
             · exact absurd (h36.symm.trans c) (by decide)
             · exact absurd ((show (getS nSet st.m).isSome = true from h40).symm.trans c) (by decide)
             · omega
             · exact h54 c
             · exact absurd ((show (val nHost st.m).all graph = true from h59).symm.trans c) (by decide)
             · exact c h67
             · exact c h75
             · omega
           first
             | (have hr : requestOk (askedF st) = false := by
                  cases hr : requestOk (askedF st) with
                  | false => rfl
                  | true => rw [hr] at c107; simp at c107
                have hx : askedL st used = .form := by simp only [askedL, hd]; rw [if_neg nb, if_pos hr]
                rw [hx]
                have hf := hs7.take 3
                exact ⟨rfl, hf⟩)
             | (have hr : requestOk (askedF st) = true := by
                  cases hr : requestOk (askedF st) with
                  | true => rfl
                  | false => rw [hr] at c107; simp at c107
                have hx : askedL st used = .ok (askedF st) (setsR d) used := by simp only [askedL, hd]; rw [if_neg nb, if_neg (by simp [hr])]
                rw [hx]
                exact ⟨_, _, _, _, rfl, ((hs7.del 6 rfl rfl).del 4 rfl rfl).del 3 rfl rfl⟩))
    · refine ⟨_, rfl, ?_⟩
      refine WO.run 3 rfl ?_
      refine WO2.both rfl rfl (fun h40 => ?_) (fun h40 => ?_)
      · refine ⟨_, rfl, ?_⟩
        replace h40 := not_true_eq h40
        refine WO.run 38 rfl ?_
        refine WO.nil ?_
        show WC _ _ _ _ _ _
        refine WC.cond rfl (fun _ => ?_) (fun hc => ?_)
        rotate_left
        · first | exact absurd hc (by decide) | (exfalso; simp_all; done)
        refine WC.seq ?_
        refine WC.region ?_
        refine WO.run 1 rfl ?_
        refine WO.ex rfl (Ob.store hs6 3 rfl rfl rfl rfl rfl rfl rfl rfl) ?_
        rintro _ τ8 ⟨rfl, hs8⟩
        refine ⟨_, rfl, ?_⟩
        clear hs6
        refine WO.run 1 rfl ?_
        refine WO.nil ?_
        show WC _ _ _ _ _ _
        refine WC.ret ?_
        refine ⟨_, (res_cell rfl (hs8.ld 3 rfl rfl) (res_tmp rfl res_nil)), ?_⟩
        first
          | (have hx : askedL st used = .form := by simp only [askedL, hd]
             rw [hx]
             have hf := hs8.take 3
             exact ⟨rfl, hf⟩)
          | (have hx : askedL st used = .form := by
               simp only [askedL, hd]
               rw [if_pos]
               first
                 | exact .inl h36
                 | exact .inr (.inl h40)
                 | exact .inr (.inr (.inl (by omega)))
                 | exact .inr (.inr (.inr (.inl h54)))
                 | exact .inr (.inr (.inr (.inr (.inl h59))))
                 | exact .inr (.inr (.inr (.inr (.inr (.inl h67)))))
                 | exact .inr (.inr (.inr (.inr (.inr (.inr (.inl h75))))))
                 | exact .inr (.inr (.inr (.inr (.inr (.inr (.inr (by omega)))))))
             rw [hx]
             have hf := hs8.take 3
             exact ⟨rfl, hf⟩)
          | (have nb : ¬ askedBad st used d := by
               rintro (c | c | c | c | c | c | c | c)
               · exact absurd (h36.symm.trans c) (by decide)
               · exact absurd ((show (getS nSet st.m).isSome = true from h40).symm.trans c) (by decide)
               · omega
               · exact h54 c
               · exact absurd ((show (val nHost st.m).all graph = true from h59).symm.trans c) (by decide)
               · exact c h67
               · exact c h75
               · omega
             first
               | (have hr : requestOk (askedF st) = false := by
                    cases hr : requestOk (askedF st) with
                    | false => rfl
                    | true => rw [hr] at c107; simp at c107
                  have hx : askedL st used = .form := by simp only [askedL, hd]; rw [if_neg nb, if_pos hr]
                  rw [hx]
                  have hf := hs8.take 3
                  exact ⟨rfl, hf⟩)
               | (have hr : requestOk (askedF st) = true := by
                    cases hr : requestOk (askedF st) with
                    | true => rfl
                    | false => rw [hr] at c107; simp at c107
                  have hx : askedL st used = .ok (askedF st) (setsR d) used := by simp only [askedL, hd]; rw [if_neg nb, if_neg (by simp [hr])]
                  rw [hx]
                  exact ⟨_, _, _, _, rfl, ((hs8.del 6 rfl rfl).del 4 rfl rfl).del 3 rfl rfl⟩))
      · refine ⟨_, rfl, ?_⟩
        replace h40 := not_false_eq h40
        refine WO.run 6 rfl ?_
        refine WO2.val (v' := .int .i64 ((d.length % 6 : Nat) : Int)) rfl rfl rfl rfl ?_
        refine WO.run 2 rfl ?_
        refine WO2.both rfl rfl (fun h50 => ?_) (fun h50 => ?_)
        · refine ⟨_, rfl, ?_⟩
          replace h50 := bne_iff_ne.1 h50
          refine WO.run 28 rfl ?_
          refine WO.nil ?_
          show WC _ _ _ _ _ _
          refine WC.cond rfl (fun _ => ?_) (fun hc => ?_)
          rotate_left
          · first | exact absurd hc (by decide) | (exfalso; simp_all; done)
          refine WC.seq ?_
          refine WC.region ?_
          refine WO.run 1 rfl ?_
          refine WO.ex rfl (Ob.store hs6 3 rfl rfl rfl rfl rfl rfl rfl rfl) ?_
          rintro _ τ9 ⟨rfl, hs9⟩
          refine ⟨_, rfl, ?_⟩
          clear hs6
          refine WO.run 1 rfl ?_
          refine WO.nil ?_
          show WC _ _ _ _ _ _
          refine WC.ret ?_
          refine ⟨_, (res_cell rfl (hs9.ld 3 rfl rfl) (res_tmp rfl res_nil)), ?_⟩
          first
            | (have hx : askedL st used = .form := by simp only [askedL, hd]
               rw [hx]
               have hf := hs9.take 3
               exact ⟨rfl, hf⟩)
            | (have hx : askedL st used = .form := by
                 simp only [askedL, hd]
                 rw [if_pos]
                 first
                   | exact .inl h36
                   | exact .inr (.inl h40)
                   | exact .inr (.inr (.inl (by omega)))
                   | exact .inr (.inr (.inr (.inl h54)))
                   | exact .inr (.inr (.inr (.inr (.inl h59))))
                   | exact .inr (.inr (.inr (.inr (.inr (.inl h67)))))
                   | exact .inr (.inr (.inr (.inr (.inr (.inr (.inl h75))))))
                   | exact .inr (.inr (.inr (.inr (.inr (.inr (.inr (by omega)))))))
               rw [hx]
               have hf := hs9.take 3
               exact ⟨rfl, hf⟩)
            | (have nb : ¬ askedBad st used d := by
                 rintro (c | c | c | c | c | c | c | c)
                 · exact absurd (h36.symm.trans c) (by decide)
                 · exact absurd ((show (getS nSet st.m).isSome = true from h40).symm.trans c) (by decide)
                 · omega
                 · exact h54 c
                 · exact absurd ((show (val nHost st.m).all graph = true from h59).symm.trans c) (by decide)
                 · exact c h67
                 · exact c h75
                 · omega
               first
                 | (have hr : requestOk (askedF st) = false := by
                      cases hr : requestOk (askedF st) with
                      | false => rfl
                      | true => rw [hr] at c107; simp at c107
                    have hx : askedL st used = .form := by simp only [askedL, hd]; rw [if_neg nb, if_pos hr]
                    rw [hx]
                    have hf := hs9.take 3
                    exact ⟨rfl, hf⟩)
                 | (have hr : requestOk (askedF st) = true := by
                      cases hr : requestOk (askedF st) with
                      | true => rfl
                      | false => rw [hr] at c107; simp at c107
                    have hx : askedL st used = .ok (askedF st) (setsR d) used := by simp only [askedL, hd]; rw [if_neg nb, if_neg (by simp [hr])]
                    rw [hx]
                    exact ⟨_, _, _, _, rfl, ((hs9.del 6 rfl rfl).del 4 rfl rfl).del 3 rfl rfl⟩))
        · refine ⟨_, rfl, ?_⟩
          replace h50 := eq_of_bne_false h50
          refine WO.run 3 rfl ?_
          refine WO2.both rfl rfl (fun h54 => ?_) (fun h54 => ?_)
          · refine ⟨_, rfl, ?_⟩
            replace h54 := show _ = ([] : List UInt8) from eq_of_beq h54
            refine WO.run 24 rfl ?_
            refine WO.nil ?_
            show WC _ _ _ _ _ _
            refine WC.cond rfl (fun _ => ?_) (fun hc => ?_)
            rotate_left
            · first | exact absurd hc (by decide) | (exfalso; simp_all; done)
            refine WC.seq ?_
            refine WC.region ?_
            refine WO.run 1 rfl ?_
            refine WO.ex rfl (Ob.store hs6 3 rfl rfl rfl rfl rfl rfl rfl rfl) ?_
            rintro _ τ10 ⟨rfl, hs10⟩
            refine ⟨_, rfl, ?_⟩
            clear hs6
            refine WO.run 1 rfl ?_
            refine WO.nil ?_
            show WC _ _ _ _ _ _
            refine WC.ret ?_
            refine ⟨_, (res_cell rfl (hs10.ld 3 rfl rfl) (res_tmp rfl res_nil)), ?_⟩
            first
              | (have hx : askedL st used = .form := by simp only [askedL, hd]
                 rw [hx]
                 have hf := hs10.take 3
                 exact ⟨rfl, hf⟩)
              | (have hx : askedL st used = .form := by
                   simp only [askedL, hd]
                   rw [if_pos]
                   first
                     | exact .inl h36
                     | exact .inr (.inl h40)
                     | exact .inr (.inr (.inl (by omega)))
                     | exact .inr (.inr (.inr (.inl h54)))
                     | exact .inr (.inr (.inr (.inr (.inl h59))))
                     | exact .inr (.inr (.inr (.inr (.inr (.inl h67)))))
                     | exact .inr (.inr (.inr (.inr (.inr (.inr (.inl h75))))))
                     | exact .inr (.inr (.inr (.inr (.inr (.inr (.inr (by omega)))))))
                 rw [hx]
                 have hf := hs10.take 3
                 exact ⟨rfl, hf⟩)
              | (have nb : ¬ askedBad st used d := by
                   rintro (c | c | c | c | c | c | c | c)
                   · exact absurd (h36.symm.trans c) (by decide)
                   · exact absurd ((show (getS nSet st.m).isSome = true from h40).symm.trans c) (by decide)
                   · omega
                   · exact h54 c
                   · exact absurd ((show (val nHost st.m).all graph = true from h59).symm.trans c) (by decide)
                   · exact c h67
                   · exact c h75
                   · omega
                 first
                   | (have hr : requestOk (askedF st) = false := by
                        cases hr : requestOk (askedF st) with
                        | false => rfl
                        | true => rw [hr] at c107; simp at c107
                      have hx : askedL st used = .form := by simp only [askedL, hd]; rw [if_neg nb, if_pos hr]
                      rw [hx]
                      have hf := hs10.take 3
                      exact ⟨rfl, hf⟩)
                   | (have hr : requestOk (askedF st) = true := by
                        cases hr : requestOk (askedF st) with
                        | true => rfl
                        | false => rw [hr] at c107; simp at c107
                      have hx : askedL st used = .ok (askedF st) (setsR d) used := by simp only [askedL, hd]; rw [if_neg nb, if_neg (by simp [hr])]
                      rw [hx]
                      exact ⟨_, _, _, _, rfl, ((hs10.del 6 rfl rfl).del 4 rfl rfl).del 3 rfl rfl⟩))
          · refine ⟨_, rfl, ?_⟩
            replace h54 := show _ ≠ ([] : List UInt8) from ne_of_beq_false h54
            refine WO.run 1 rfl ?_
            refine WO2.call rfl rfl rfl rfl rfl ?_
            refine WF.mono (all_wf graph 66 graph_wf (val nHost st.m) (by have := hm.val nHost; omega) _) ?_
            rintro _ _ ⟨rfl, rfl⟩
            refine ⟨_, rfl, ?_⟩
            refine WO.run 2 rfl ?_
            refine WO2.both rfl rfl (fun h59 => ?_) (fun h59 => ?_)
            · refine ⟨_, rfl, ?_⟩
              replace h59 := not_true_eq h59
              refine WO.run 19 rfl ?_
              refine WO.nil ?_
              show WC _ _ _ _ _ _
              refine WC.cond rfl (fun _ => ?_) (fun hc => ?_)
              rotate_left
              · first | exact absurd hc (by decide) | (exfalso; simp_all; done)
              refine WC.seq ?_
              refine WC.region ?_
              refine WO.run 1 rfl ?_
              refine WO.ex rfl (Ob.store hs6 3 rfl rfl rfl rfl rfl rfl rfl rfl) ?_
              rintro _ τ11 ⟨rfl, hs11⟩
              refine ⟨_, rfl, ?_⟩
              clear hs6
              refine WO.run 1 rfl ?_
              refine WO.nil ?_
              show WC _ _ _ _ _ _
              refine WC.ret ?_
              refine ⟨_, (res_cell rfl (hs11.ld 3 rfl rfl) (res_tmp rfl res_nil)), ?_⟩
              first
                | (have hx : askedL st used = .form := by simp only [askedL, hd]
                   rw [hx]
                   have hf := hs11.take 3
                   exact ⟨rfl, hf⟩)
                | (have hx : askedL st used = .form := by
                     simp only [askedL, hd]
                     rw [if_pos]
                     first
                       | exact .inl h36
                       | exact .inr (.inl h40)
                       | exact .inr (.inr (.inl (by omega)))
                       | exact .inr (.inr (.inr (.inl h54)))
                       | exact .inr (.inr (.inr (.inr (.inl h59))))
                       | exact .inr (.inr (.inr (.inr (.inr (.inl h67)))))
                       | exact .inr (.inr (.inr (.inr (.inr (.inr (.inl h75))))))
                       | exact .inr (.inr (.inr (.inr (.inr (.inr (.inr (by omega)))))))
                   rw [hx]
                   have hf := hs11.take 3
                   exact ⟨rfl, hf⟩)
                | (have nb : ¬ askedBad st used d := by
                     rintro (c | c | c | c | c | c | c | c)
                     · exact absurd (h36.symm.trans c) (by decide)
                     · exact absurd ((show (getS nSet st.m).isSome = true from h40).symm.trans c) (by decide)
                     · omega
                     · exact h54 c
                     · exact absurd ((show (val nHost st.m).all graph = true from h59).symm.trans c) (by decide)
                     · exact c h67
                     · exact c h75
                     · omega
                   first
                     | (have hr : requestOk (askedF st) = false := by
                          cases hr : requestOk (askedF st) with
                          | false => rfl
                          | true => rw [hr] at c107; simp at c107
                        have hx : askedL st used = .form := by simp only [askedL, hd]; rw [if_neg nb, if_pos hr]
                        rw [hx]
                        have hf := hs11.take 3
                        exact ⟨rfl, hf⟩)
                     | (have hr : requestOk (askedF st) = true := by
                          cases hr : requestOk (askedF st) with
                          | true => rfl
                          | false => rw [hr] at c107; simp at c107
                        have hx : askedL st used = .ok (askedF st) (setsR d) used := by simp only [askedL, hd]; rw [if_neg nb, if_neg (by simp [hr])]
                        rw [hx]
                        exact ⟨_, _, _, _, rfl, ((hs11.del 6 rfl rfl).del 4 rfl rfl).del 3 rfl rfl⟩))
            · refine ⟨_, rfl, ?_⟩
              replace h59 := not_false_eq h59
              refine WO.run 2 rfl ?_
              refine WO2.op rfl (Ob.fieldAddr (k := 3) rfl rfl rfl rfl rfl rfl) rfl ?_
              refine WO2.op rfl (Ob.load rfl rfl (hs6.ld 0 rfl rfl)) rfl ?_
              refine WO2.op rfl (Ob.lookupS rfl rfl rfl rfl rfl (hs6.get (i := 2) rfl) rfl) rfl ?_
              refine WO.run 2 rfl ?_
              refine WO2.both rfl rfl (fun h67 => ?_) (fun h67 => ?_)
              · refine ⟨_, rfl, ?_⟩
                replace h67 := show _ ≠ ([85, 112, 103, 114, 97, 100, 101, 44, 32, 72, 84, 84, 80, 50, 45, 83, 101, 116, 116, 105, 110, 103, 115] : List UInt8) from bne_iff_ne.1 h67
                refine WO.run 11 rfl ?_
                refine WO.nil ?_
                show WC _ _ _ _ _ _
                refine WC.cond rfl (fun _ => ?_) (fun hc => ?_)
                rotate_left
                · first | exact absurd hc (by decide) | (exfalso; simp_all; done)
                refine WC.seq ?_
                refine WC.region ?_
                refine WO.run 1 rfl ?_
                refine WO.ex rfl (Ob.store hs6 3 rfl rfl rfl rfl rfl rfl rfl rfl) ?_
                rintro _ τ12 ⟨rfl, hs12⟩
                refine ⟨_, rfl, ?_⟩
                clear hs6
                refine WO.run 1 rfl ?_
                refine WO.nil ?_
                show WC _ _ _ _ _ _
                refine WC.ret ?_
                refine ⟨_, (res_cell rfl (hs12.ld 3 rfl rfl) (res_tmp rfl res_nil)), ?_⟩
                first
                  | (have hx : askedL st used = .form := by simp only [askedL, hd]
                     rw [hx]
                     have hf := hs12.take 3
                     exact ⟨rfl, hf⟩)
                  | (have hx : askedL st used = .form := by
                       simp only [askedL, hd]
                       rw [if_pos]
                       first
                         | exact .inl h36
                         | exact .inr (.inl h40)
                         | exact .inr (.inr (.inl (by omega)))
                         | exact .inr (.inr (.inr (.inl h54)))
                         | exact .inr (.inr (.inr (.inr (.inl h59))))
                         | exact .inr (.inr (.inr (.inr (.inr (.inl h67)))))
                         | exact .inr (.inr (.inr (.inr (.inr (.inr (.inl h75))))))
                         | exact .inr (.inr (.inr (.inr (.inr (.inr (.inr (by omega)))))))
                     rw [hx]
                     have hf := hs12.take 3
                     exact ⟨rfl, hf⟩)
                  | (have nb : ¬ askedBad st used d := by
                       rintro (c | c | c | c | c | c | c | c)
                       · exact absurd (h36.symm.trans c) (by decide)
                       · exact absurd ((show (getS nSet st.m).isSome = true from h40).symm.trans c) (by decide)
                       · omega
                       · exact h54 c
                       · exact absurd ((show (val nHost st.m).all graph = true from h59).symm.trans c) (by decide)
                       · exact c h67
                       · exact c h75
                       · omega
                     first
                       | (have hr : requestOk (askedF st) = false := by
                            cases hr : requestOk (askedF st) with
                            | false => rfl
                            | true => rw [hr] at c107; simp at c107
                          have hx : askedL st used = .form := by simp only [askedL, hd]; rw [if_neg nb, if_pos hr]
                          rw [hx]
                          have hf := hs12.take 3
                          exact ⟨rfl, hf⟩)
                       | (have hr : requestOk (askedF st) = true := by
                            cases hr : requestOk (askedF st) with
                            | true => rfl
                            | false => rw [hr] at c107; simp at c107
                          have hx : askedL st used = .ok (askedF st) (setsR d) used := by simp only [askedL, hd]; rw [if_neg nb, if_neg (by simp [hr])]
                          rw [hx]
                          exact ⟨_, _, _, _, rfl, ((hs12.del 6 rfl rfl).del 4 rfl rfl).del 3 rfl rfl⟩))
              · refine ⟨_, rfl, ?_⟩
                replace h67 := show _ = ([85, 112, 103, 114, 97, 100, 101, 44, 32, 72, 84, 84, 80, 50, 45, 83, 101, 116, 116, 105, 110, 103, 115] : List UInt8) from eq_of_bne_false h67
                refine WO.run 2 rfl ?_
                refine WO2.op rfl (Ob.fieldAddr (k := 3) rfl rfl rfl rfl rfl rfl) rfl ?_
                refine WO2.op rfl (Ob.load rfl rfl (hs6.ld 0 rfl rfl)) rfl ?_
                refine WO2.op rfl (Ob.lookupS rfl rfl rfl rfl rfl (hs6.get (i := 2) rfl) rfl) rfl ?_
                refine WO.run 2 rfl ?_
                refine WO2.both rfl rfl (fun h75 => ?_) (fun h75 => ?_)
                · refine ⟨_, rfl, ?_⟩
                  replace h75 := show _ ≠ ([104, 50, 99] : List UInt8) from bne_iff_ne.1 h75
                  refine WO.run 3 rfl ?_
                  refine WO.nil ?_
                  show WC _ _ _ _ _ _
                  refine WC.cond rfl (fun _ => ?_) (fun hc => ?_)
                  rotate_left
                  · first | exact absurd hc (by decide) | (exfalso; simp_all; done)
                  refine WC.seq ?_
                  refine WC.region ?_
                  refine WO.run 1 rfl ?_
                  refine WO.ex rfl (Ob.store hs6 3 rfl rfl rfl rfl rfl rfl rfl rfl) ?_
                  rintro _ τ13 ⟨rfl, hs13⟩
                  refine ⟨_, rfl, ?_⟩
                  clear hs6
                  refine WO.run 1 rfl ?_
                  refine WO.nil ?_
                  show WC _ _ _ _ _ _
                  refine WC.ret ?_
                  refine ⟨_, (res_cell rfl (hs13.ld 3 rfl rfl) (res_tmp rfl res_nil)), ?_⟩
                  first
                    | (have hx : askedL st used = .form := by simp only [askedL, hd]
                       rw [hx]
                       have hf := hs13.take 3
                       exact ⟨rfl, hf⟩)
                    | (have hx : askedL st used = .form := by
                         simp only [askedL, hd]
                         rw [if_pos]
                         first
                           | exact .inl h36
                           | exact .inr (.inl h40)
                           | exact .inr (.inr (.inl (by omega)))
                           | exact .inr (.inr (.inr (.inl h54)))
                           | exact .inr (.inr (.inr (.inr (.inl h59))))
                           | exact .inr (.inr (.inr (.inr (.inr (.inl h67)))))
                           | exact .inr (.inr (.inr (.inr (.inr (.inr (.inl h75))))))
                           | exact .inr (.inr (.inr (.inr (.inr (.inr (.inr (by omega)))))))
                       rw [hx]
                       have hf := hs13.take 3
                       exact ⟨rfl, hf⟩)
                    | (have nb : ¬ askedBad st used d := by
                         rintro (c | c | c | c | c | c | c | c)
                         · exact absurd (h36.symm.trans c) (by decide)
                         · exact absurd ((show (getS nSet st.m).isSome = true from h40).symm.trans c) (by decide)
                         · omega
                         · exact h54 c
                         · exact absurd ((show (val nHost st.m).all graph = true from h59).symm.trans c) (by decide)
                         · exact c h67
                         · exact c h75
                         · omega
                       first
                         | (have hr : requestOk (askedF st) = false := by
                              cases hr : requestOk (askedF st) with
                              | false => rfl
                              | true => rw [hr] at c107; simp at c107
                            have hx : askedL st used = .form := by simp only [askedL, hd]; rw [if_neg nb, if_pos hr]
                            rw [hx]
                            have hf := hs13.take 3
                            exact ⟨rfl, hf⟩)
                         | (have hr : requestOk (askedF st) = true := by
                              cases hr : requestOk (askedF st) with
                              | true => rfl
                              | false => rw [hr] at c107; simp at c107
                            have hx : askedL st used = .ok (askedF st) (setsR d) used := by simp only [askedL, hd]; rw [if_neg nb, if_neg (by simp [hr])]
                            rw [hx]
                            exact ⟨_, _, _, _, rfl, ((hs13.del 6 rfl rfl).del 4 rfl rfl).del 3 rfl rfl⟩))
                · refine ⟨_, rfl, ?_⟩
                  replace h75 := show _ = ([104, 50, 99] : List UInt8) from eq_of_bne_false h75
                  refine WO.run 3 rfl ?_
                  refine WO.nil ?_
                  show WC _ _ _ _ _ _
                  refine WC.cond rfl (fun c78 => ?_) (fun c78 => ?_)
                  · replace c78 := of_decide_eq_true c78
                    refine WC.seq ?_
                    refine WC.region ?_
                    refine WO.run 1 rfl ?_
                    refine WO.ex rfl (Ob.store hs6 3 rfl rfl rfl rfl rfl rfl rfl rfl) ?_
                    rintro _ τ14 ⟨rfl, hs14⟩
                    refine ⟨_, rfl, ?_⟩
                    clear hs6
                    refine WO.run 1 rfl ?_
                    refine WO.nil ?_
                    show WC _ _ _ _ _ _
                    refine WC.ret ?_
                    refine ⟨_, (res_cell rfl (hs14.ld 3 rfl rfl) (res_tmp rfl res_nil)), ?_⟩
                    first
                      | (have hx : askedL st used = .form := by simp only [askedL, hd]
                         rw [hx]
                         have hf := hs14.take 3
                         exact ⟨rfl, hf⟩)
                      | (have hx : askedL st used = .form := by
                           simp only [askedL, hd]
                           rw [if_pos]
                           first
                             | exact .inl h36
                             | exact .inr (.inl h40)
                             | exact .inr (.inr (.inl (by omega)))
                             | exact .inr (.inr (.inr (.inl h54)))
                             | exact .inr (.inr (.inr (.inr (.inl h59))))
                             | exact .inr (.inr (.inr (.inr (.inr (.inl h67)))))
                             | exact .inr (.inr (.inr (.inr (.inr (.inr (.inl h75))))))
                             | exact .inr (.inr (.inr (.inr (.inr (.inr (.inr (by omega)))))))
                         rw [hx]
                         have hf := hs14.take 3
                         exact ⟨rfl, hf⟩)
                      | (have nb : ¬ askedBad st used d := by
                           rintro (c | c | c | c | c | c | c | c)
                           · exact absurd (h36.symm.trans c) (by decide)
                           · exact absurd ((show (getS nSet st.m).isSome = true from h40).symm.trans c) (by decide)
                           · omega
                           · exact h54 c
                           · exact absurd ((show (val nHost st.m).all graph = true from h59).symm.trans c) (by decide)
                           · exact c h67
                           · exact c h75
                           · omega
                         first
                           | (have hr : requestOk (askedF st) = false := by
                                cases hr : requestOk (askedF st) with
                                | false => rfl
                                | true => rw [hr] at c107; simp at c107
                              have hx : askedL st used = .form := by simp only [askedL, hd]; rw [if_neg nb, if_pos hr]
                              rw [hx]
                              have hf := hs14.take 3
                              exact ⟨rfl, hf⟩)
                           | (have hr : requestOk (askedF st) = true := by
                                cases hr : requestOk (askedF st) with
                                | true => rfl
                                | false => rw [hr] at c107; simp at c107
                              have hx : askedL st used = .ok (askedF st) (setsR d) used := by simp only [askedL, hd]; rw [if_neg nb, if_neg (by simp [hr])]
                              rw [hx]
                              exact ⟨_, _, _, _, rfl, ((hs14.del 6 rfl rfl).del 4 rfl rfl).del 3 rfl rfl⟩))
                  · replace c78 := of_decide_eq_false c78
                    refine WC.skip ?_
                    show WC _ _ _ _ _ _
                    refine WC.seq ?_
                    refine WC.region ?_
                    refine WO.run 2 rfl ?_
                    refine WO2.call rfl rfl rfl rfl rfl ?_
                    refine WF.mono (read_wf d _ _ _ _ (hs6.rdB (i := 4) rfl) (by omega) (by omega)) ?_
                    rintro _ τr ⟨pr, kr, rfl, hx83⟩
                    have hs15 := hs6.add' hx83 rfl
                    refine ⟨_, rfl, ?_⟩
                    refine WO.run 3 rfl ?_
                    refine WO.ex rfl (Ob.alloc hs15 rfl rfl fun _ => rfl) ?_
                    rintro _ τ16 ⟨r11, rfl, hs16⟩
                    refine ⟨_, rfl, ?_⟩
                    clear hs15
                    refine WO.ex rfl (Ob.store hs16 6 rfl rfl rfl rfl rfl rfl rfl rfl) ?_
                    rintro _ τ17 ⟨rfl, hs17⟩
                    refine ⟨_, rfl, ?_⟩
                    clear hs16
                    refine WO.run 1 rfl ?_
                    refine WO.nil ?_
                    show WC _ _ _ _ _ _
                    refine WC.seq ?_
                    refine WC.draw (by kernel_rfl) ?_
                    refine WD.run 2 rfl ?_
                    refine WD2.op0 rfl rfl (Ob.fieldAddr (k := 0) rfl rfl rfl rfl rfl rfl) rfl ?_
                    refine WD2.op1 rfl rfl (Ob.load rfl rfl (hs17.ld 0 rfl rfl)) rfl ?_
                    refine WD.run 6 rfl ?_
                    refine WD2.op0 rfl rfl (Ob.fieldAddr (k := 1) rfl rfl rfl rfl rfl rfl) rfl ?_
                    refine WD2.op1 rfl rfl (Ob.load rfl rfl (hs17.ld 0 rfl rfl)) rfl ?_
                    refine WD.run 1 rfl ?_
                    refine WD.ex rfl rfl (Ob.buildSlice (e := 60) (z := 2) hs17 rfl rfl rfl rfl rfl rfl fun _ => rfl) ?_
                    rintro _ τ18 ⟨p99, rfl, hs18⟩
                    refine ⟨_, rfl, ?_⟩
                    replace hs18 := hs18.re 7 (At.sl 60 3 p99 4 4 ([⟨kMethod, st.me, false⟩, ⟨kScheme, sHttp, false⟩, ⟨kAuth, val nHost st.m, false⟩, ⟨kPath, st.pa, false⟩].flatMap encF)) rfl rfl
                    refine WD.run 2 rfl ?_
                    refine WD2.op0 rfl rfl (Ob.fieldAddr (k := 2) rfl rfl rfl rfl rfl rfl) rfl ?_
                    refine WD2.op1 rfl rfl (Ob.load rfl rfl (hs18.ld 0 rfl rfl)) rfl ?_
                    refine WD.ex rfl rfl (Ob.appL (enc := encF) (ys := st.fs) (e := 60) (z := 3) (b := 40) hs18 7 (by intro _; rfl) (by decide) rfl rfl rfl rfl rfl rfl (Rd.src (hs18.rd (i := 1) rfl)) (by first | rfl | exact RdL.len (hs18.rdL (i := 1) rfl (by intro _; rfl) (by decide))) (by simp only [List.length_append, List.length_cons, List.length_nil]; omega) fun _ _ => rfl) ?_
                    rintro _ τ19 ⟨p104, k104, rfl, hs19⟩
                    refine ⟨_, rfl, ?_⟩
                    refine WD.run 1 rfl ?_
                    refine WD.nil ⟨reads_ok ⟨⟨.inl (by kernel_rfl), .inr (opR_load rfl (hs18.ld 0 rfl rfl)), .inr (opR_load rfl (hs17.ld 0 rfl rfl)), trivial⟩, ⟨.inl (by kernel_rfl), .inl (by kernel_rfl), .inr (opR_load rfl (hs17.ld 0 rfl rfl)), trivial⟩, ⟨.inl (by kernel_rfl), .inl (by kernel_rfl), .inr (opR_load rfl (hs17.ld 0 rfl rfl)), trivial⟩, trivial⟩, ?_⟩
                    show WC _ _ _ _ _ _
                    refine WC.seq ?_
                    refine WC.seq ?_
                    refine WC.region ?_
                    refine WO.run 1 rfl ?_
                    refine WO2.call rfl rfl rfl rfl rfl ?_
                    have hsmF : smallF 1048576 (askedF st) := by
                      intro f hfm
                      simp only [askedF, List.mem_append, List.mem_cons, List.not_mem_nil, or_false] at hfm
                      rcases hfm with (rfl | rfl | rfl | rfl) | hfm
                      · exact ⟨by show 7 ≤ 1048576; omega, hme⟩
                      · exact ⟨by decide, by decide⟩
                      · exact ⟨by show 10 ≤ 1048576; omega, hm.val nHost⟩
                      · exact ⟨by show 5 ≤ 1048576; omega, hpa⟩
                      · exact hf f hfm
                    have hfl : (askedF st).length = st.fs.length + 4 := by simp [askedF]
                    refine WF.mono (request_wf (askedF st) _ _ _ _ (hs19.rdL (i := 7) rfl (by intro _; rfl) (by decide)) hsmF (by show (askedF st).length ≤ _; omega)) ?_
                    rintro _ τq ⟨rfl, hx106⟩
                    have hs20 := hs19.add' hx106 rfl
                    refine ⟨_, rfl, ?_⟩
                    refine WO.run 1 rfl ?_
                    refine WO.nil ?_
                    show WC _ _ _ _ _ _
                    refine WC.cond rfl (fun c107 => ?_) (fun c107 => ?_)
                    · replace c107 := bne_iff_ne.1 c107
                      refine WC.seq ?_
                      refine WC.region ?_
                      refine WO.run 1 rfl ?_
                      refine WO.ex rfl (Ob.store hs20 3 rfl rfl rfl rfl rfl rfl rfl rfl) ?_
                      rintro _ τ21 ⟨rfl, hs21⟩
                      refine ⟨_, rfl, ?_⟩
                      clear hs20
                      refine WO.run 1 rfl ?_
                      refine WO.nil ?_
                      show WC _ _ _ _ _ _
                      refine WC.ret ?_
                      refine ⟨_, (res_cell rfl (hs21.ld 3 rfl rfl) (res_tmp rfl res_nil)), ?_⟩
                      first
                        | (have hx : askedL st used = .form := by simp only [askedL, hd]
                           rw [hx]
                           have hf := hs21.take 3
                           exact ⟨rfl, hf⟩)
                        | (have hx : askedL st used = .form := by
                             simp only [askedL, hd]
                             rw [if_pos]
                             first
                               | exact .inl h36
                               | exact .inr (.inl h40)
                               | exact .inr (.inr (.inl (by omega)))
                               | exact .inr (.inr (.inr (.inl h54)))
                               | exact .inr (.inr (.inr (.inr (.inl h59))))
                               | exact .inr (.inr (.inr (.inr (.inr (.inl h67)))))
                               | exact .inr (.inr (.inr (.inr (.inr (.inr (.inl h75))))))
                               | exact .inr (.inr (.inr (.inr (.inr (.inr (.inr (by omega)))))))
                           rw [hx]
                           have hf := hs21.take 3
                           exact ⟨rfl, hf⟩)
                        | (have nb : ¬ askedBad st used d := by
                             rintro (c | c | c | c | c | c | c | c)
                             · exact absurd (h36.symm.trans c) (by decide)
                             · exact absurd ((show (getS nSet st.m).isSome = true from h40).symm.trans c) (by decide)
                             · omega
                             · exact h54 c
                             · exact absurd ((show (val nHost st.m).all graph = true from h59).symm.trans c) (by decide)
                             · exact c h67
                             · exact c h75
                             · omega
                           first
                             | (have hr : requestOk (askedF st) = false := by
                                  cases hr : requestOk (askedF st) with
                                  | false => rfl
                                  | true => rw [hr] at c107; simp at c107
                                have hx : askedL st used = .form := by simp only [askedL, hd]; rw [if_neg nb, if_pos hr]
                                rw [hx]
                                have hf := hs21.take 3
                                exact ⟨rfl, hf⟩)
                             | (have hr : requestOk (askedF st) = true := by
                                  cases hr : requestOk (askedF st) with
                                  | true => rfl
                                  | false => rw [hr] at c107; simp at c107
                                have hx : askedL st used = .ok (askedF st) (setsR d) used := by simp only [askedL, hd]; rw [if_neg nb, if_neg (by simp [hr])]
                                rw [hx]
                                exact ⟨_, _, _, _, rfl, ((hs21.del 6 rfl rfl).del 4 rfl rfl).del 3 rfl rfl⟩))
                    · replace c107 := eq_of_bne_false c107
                      refine WC.skip ?_
                      show WC _ _ _ _ _ _
                      refine WC.seq ?_
                      refine WC.region ?_
                      refine WO.run 1 rfl ?_
                      refine WO2.op rfl (Ob.fieldAddr (k := 9) rfl rfl rfl rfl rfl rfl) rfl ?_
                      refine WO2.op rfl (Ob.load rfl rfl (hs20.ld 6 rfl rfl)) rfl ?_
                      refine WO.run 2 rfl ?_
                      refine WO.ex rfl (Ob.store hs20 3 rfl rfl rfl rfl rfl rfl rfl rfl) ?_
                      rintro _ τ22 ⟨rfl, hs22⟩
                      refine ⟨_, rfl, ?_⟩
                      clear hs20
                      refine WO.run 1 rfl ?_
                      refine WO.nil ?_
                      show WC _ _ _ _ _ _
                      refine WC.ret ?_
                      refine ⟨_, (res_cell rfl (hs22.ld 3 rfl rfl) (res_tmp rfl res_nil)), ?_⟩
                      first
                        | (have hx : askedL st used = .form := by simp only [askedL, hd]
                           rw [hx]
                           have hf := hs22.take 3
                           exact ⟨rfl, hf⟩)
                        | (have hx : askedL st used = .form := by
                             simp only [askedL, hd]
                             rw [if_pos]
                             first
                               | exact .inl h36
                               | exact .inr (.inl h40)
                               | exact .inr (.inr (.inl (by omega)))
                               | exact .inr (.inr (.inr (.inl h54)))
                               | exact .inr (.inr (.inr (.inr (.inl h59))))
                               | exact .inr (.inr (.inr (.inr (.inr (.inl h67)))))
                               | exact .inr (.inr (.inr (.inr (.inr (.inr (.inl h75))))))
                               | exact .inr (.inr (.inr (.inr (.inr (.inr (.inr (by omega)))))))
                           rw [hx]
                           have hf := hs22.take 3
                           exact ⟨rfl, hf⟩)
                        | (have nb : ¬ askedBad st used d := by
                             rintro (c | c | c | c | c | c | c | c)
                             · exact absurd (h36.symm.trans c) (by decide)
                             · exact absurd ((show (getS nSet st.m).isSome = true from h40).symm.trans c) (by decide)
                             · omega
                             · exact h54 c
                             · exact absurd ((show (val nHost st.m).all graph = true from h59).symm.trans c) (by decide)
                             · exact c h67
                             · exact c h75
                             · omega
                           first
                             | (have hr : requestOk (askedF st) = false := by
                                  cases hr : requestOk (askedF st) with
                                  | false => rfl
                                  | true => rw [hr] at c107; simp at c107
                                have hx : askedL st used = .form := by simp only [askedL, hd]; rw [if_neg nb, if_pos hr]
                                rw [hx]
                                have hf := hs22.take 3
                                exact ⟨rfl, hf⟩)
                             | (have hr : requestOk (askedF st) = true := by
                                  cases hr : requestOk (askedF st) with
                                  | true => rfl
                                  | false => rw [hr] at c107; simp at c107
                                have hx : askedL st used = .ok (askedF st) (setsR d) used := by simp only [askedL, hd]; rw [if_neg nb, if_neg (by simp [hr])]
                                rw [hx]
                                exact ⟨_, _, _, _, rfl, ((hs22.del 6 rfl rfl).del 4 rfl rfl).del 3 rfl rfl⟩))
end Go.Proofs.YtamplhegepgaeaaDoor
end
section
/- Walks of this layer's functions on the logical memory, part 17: a request is read. -/
open Go Go.LZ
namespace Go.Proofs.YtamplhegepgaeaaDoor
set_option maxRecDepth 10000
set_option linter.unusedSimpArgs false
set_option linter.unusedVariables false
theorem thenQ_ret {K : FSt → LZ.H → Prop} {Q : Ex → FSt → LZ.H → Prop} {s : FSt} {σ : LZ.H} (h : Q .ret s σ) : thenQ K Q .ret s σ := h
theorem thenQ_exit {id : Nat} {K : FSt → LZ.H → Prop} {Q : Ex → FSt → LZ.H → Prop} {s : FSt} {σ : LZ.H} (h : Q (.exit id) s σ) : thenQ K Q (.exit id) s σ := h
theorem cut_total {s sep : B} (h : (Lib.cut s sep).2.2 = true) : (Lib.cut s sep).1.length + sep.length + (Lib.cut s sep).2.1.length ≤ s.length + sep.length ∧ (sep.length ≤ s.length → (Lib.cut s sep).1.length + (Lib.cut s sep).2.1.length ≤ s.length) := by
  unfold Lib.cut at *
  split
  · simp only [List.length_take, List.length_drop]; omega
  · rename_i hc; rw [if_neg hc] at h; cases h
theorem cut_three {s : B} (h : (Lib.cut s crlf).2.2 = true) (hs : s ≠ []) : (Lib.cut s crlf).1.length + 2 ≤ 3 * (s.length - (Lib.cut s crlf).2.1.length) := by
  have hl : 0 < s.length := List.length_pos_iff.2 hs
  have h2 : crlf.length = 2 := rfl
  unfold Lib.cut at *
  split
  · simp only [List.length_take, List.length_drop, h2]; omega
  · rename_i hc; rw [if_neg hc] at h; cases h
inductive RdR where
  | form
  | stop
  | ask (st : Rq) (used : Nat)
def rd : Nat → Nat → Rq → Nat → B → RdR
  | 0, _, _, _, _ => .stop
  | m + 1, i, st, used, rest =>
    if (Lib.cut rest crlf).2.2 = false then .stop
    else if i = 0 then (if (firstL (Lib.cut rest crlf).1).2.2 = true then rd m 1 { st with me := (firstL (Lib.cut rest crlf).1).1, pa := (firstL (Lib.cut rest crlf).1).2.1 } (used + ((Lib.cut rest crlf).1.length + 2)) (Lib.cut rest crlf).2.1 else .form)
    else if (Lib.cut rest crlf).1 = [] then .ask st (used + ((Lib.cut rest crlf).1.length + 2))
    else if lineOk (Lib.cut rest crlf).1 = true then rd m (i + 1) (takesL st (lineF (Lib.cut rest crlf).1)) (used + ((Lib.cut rest crlf).1.length + 2)) (Lib.cut rest crlf).2.1
    else .form
def rq0 : Rq := ⟨[], [], [], [], false⟩
def readR (bs : B) : RdR := rd (bs.length + 1) 0 rq0 0 bs
/-- More fuel than bytes is enough. -/
theorem rd_fuel : ∀ (m m' i : Nat) (st : Rq) (used : Nat) (rest : B), rest.length < m → rest.length < m' → rd m i st used rest = rd m' i st used rest := by
  intro m
  induction m with
  | zero => intro m' i st used rest h; omega
  | succ m ih =>
    intro m' i st used rest h h'
    obtain ⟨m', rfl⟩ : ∃ k, m' = k + 1 := ⟨m' - 1, by omega⟩
    simp only [rd]
    by_cases hc : (Lib.cut rest crlf).2.2 = false
    · rw [if_pos hc, if_pos hc]
    · have hc' : (Lib.cut rest crlf).2.2 = true := by simpa using hc
      have hne : rest ≠ [] := fun e => by rw [e, cut_nil (by decide)] at hc'; cases hc'
      have hsh := cut_shorter hc' (by decide) hne
      rw [if_neg hc, if_neg hc]
      split
      · split
        · exact ih _ _ _ _ _ (by omega) (by omega)
        · rfl
      · split
        · rfl
        · split
          · exact ih _ _ _ _ _ (by omega) (by omega)
          · rfl
inductive ReadRes where
  | no (c : Int)
  | ok (fs : List Fld) (ss : List Stg) (used : Nat)
def readL (bs : B) : ReadRes := match readR bs with
  | .form => .no 4
  | .stop => if 16384 < bs.length then .no 4 else .no 3
  | .ask st used => match askedL st used with
    | .form => .no 4
    | .ok fs ss u => .ok fs ss u
abbrev sizeRq (st : Rq) : Prop := smallM 1048576 st.m ∧ smallF 1048576 st.fs ∧ st.me.length ≤ 1048576 ∧ st.pa.length ≤ 1048576
theorem sizeRq0 : sizeRq rq0 := by

  exact ⟨fun _ h => (by cases h), fun _ h => (by cases h), by decide, by decide⟩
theorem first_nil {s : B} (h : (firstL s).2.2 = true) : s ≠ [] := by
  rintro rfl
  have : (firstL []).2.2 = false := rfl
  rw [this] at h
  cases h
theorem line_sizes (s : B) : (lineF s).name.length ≤ s.length ∧ (lineF s).value.length ≤ s.length := by
  have h1 := cut_lengths s [58]
  have h2 := trim_length (Lib.cut s [58]).2.1 32
  exact ⟨by show ((Lib.cut s [58]).1.map smallC).length ≤ _; rw [List.length_map]; omega, by show (Lib.trimLeftB (Lib.cut s [58]).2.1 32).length ≤ _; omega⟩
theorem takes_sizes {st : Rq} (h : sizeRq st) {s : B} (hs : s.length ≤ 1048576) : sizeRq (takesL st (lineF s)) ∧ (takesL st (lineF s)).fs.length ≤ st.fs.length + 1 := by
  have hl := line_sizes s
  obtain ⟨a, b, c, d⟩ := h
  unfold takesL
  split
  · exact ⟨⟨a.put (by omega), b, c, d⟩, by simp⟩
  · split
    · exact ⟨⟨a, b, c, d⟩, by simp⟩
    · refine ⟨⟨a, fun f hf => ?_, c, d⟩, by simp⟩
      rcases List.mem_append.1 hf with hf | hf
      · exact b f hf
      · simp only [List.mem_singleton] at hf
        subst hf
        exact ⟨by omega, by omega⟩
theorem first_sizes (s : B) : (firstL s).1.length ≤ s.length ∧ (firstL s).2.1.length ≤ s.length := by
  have h1 := cut_lengths s [32]
  have h2 := cut_lengths (Lib.cut s [32]).2.1 [32]
  exact ⟨h1.1, by show (Lib.cut (Lib.cut s [32]).2.1 [32]).1.length ≤ _; omega⟩
def zAsked : List LV := [.slice none 0 0, .slice none 0 0, .int .i64 0]
/-- What holds ahead of a round. -/
abbrev InvR (σ : LZ.H) (bs : B) (sl : LV) (r13 r11 r2 r3 r4 r5 rb l : Nat) (ob : LZ.Obj) (i : Nat) (rest : B) (τ : LZ.H) : Prop :=
  ∃ (st : Rq) (p1 : P3) (k1 used : Nat), rd (rest.length + 1) i st used rest = readR bs ∧ sizeRq st ∧ st.fs.length ≤ i ∧ i + rest.length ≤ bs.length ∧ used ≤ 3 * bs.length - 3 * rest.length ∧ rest.length ≤ bs.length ∧
    Hs [] σ τ [At.row r13 85 [.str st.me, .str st.pa, .slice p1 st.fs.length k1, .map (some r11), .bool st.bad], At.sl 60 3 p1 st.fs.length k1 (st.fs.flatMap encF), At.map r11 (encM st.m), At.row r2 30 zAsked, At.row r3 26 [.int .i64 0], At.row r4 83 [.ptr (some (r13, 0))], At.row r5 3 [.int .i64 (used : Int)], At.row rb 24 [sl], At.obj l ob]
/-- What holds behind a return out of a round. -/
abbrev FinR (σ : LZ.H) (bs : B) (r2 r3 l : Nat) (τ : LZ.H) : Prop :=
  ∃ ob, (∃ s ps asg body, ob = LZ.Obj.loop 2 (some .ret) s ps asg body) ∧
    ((∃ c, readL bs = .no c ∧ Hs [] σ τ [At.row r2 30 zAsked, At.row r3 26 [.int .i64 c], At.obj l ob]) ∨
     (∃ fs ss u p1 k1 p2 k2, readL bs = .ok fs ss u ∧ Hs [] σ τ [At.row r2 30 [.slice p1 fs.length k1, .slice p2 ss.length k2, .int .i64 (u : Int)], At.row r3 26 [.int .i64 0], At.obj l ob, At.sl 62 2 p2 ss.length k2 (ss.flatMap encT), At.sl 60 3 p1 fs.length k1 (fs.flatMap encF)]))
theorem readU_wf (bs : B) (p : P3) (n k : Nat) (σ : LZ.H) (hb : RdB σ p n k bs) (hn : n ≤ 1000000) :
    WF Tryd.prog ext 10 [.slice p n k] σ (fun v σ' => match readL bs with
      | .no c => v = .tuple [.agg zAsked, .int .i64 c] ∧ Hs [] σ σ' []
      | .ok fs ss u => ∃ p1 k1 p2 k2, v = .tuple [.agg [.slice p1 fs.length k1, .slice p2 ss.length k2, .int .i64 (u : Int)], .int .i64 0] ∧ Hs [] σ σ' [At.sl 62 2 p2 ss.length k2 (ss.flatMap encT), At.sl 60 3 p1 fs.length k1 (fs.flatMap encF)]) := by
  refine WF.body rfl Tryd.func10 rfl rfl ?_
  have hs0 := Hs.nil σ
  have hlen := hb.len
  refine WC.seq ?_
  refine WC.region ?_
  refine WO.ex rfl (Ob.alloc hs0 rfl rfl fun _ => rfl) ?_
  rintro _ τ1 ⟨r2, rfl, hs1⟩
  refine ⟨_, rfl, ?_⟩
  clear hs0
  refine WO.ex rfl (Ob.alloc hs1 rfl rfl fun _ => rfl) ?_
  rintro _ τ2 ⟨r3, rfl, hs2⟩
  refine ⟨_, rfl, ?_⟩
  clear hs1
  refine WO.nil ?_
  show WC _ _ _ _ _ _
  refine WC.scope ?_
  refine WC.seq ?_
  refine WC.region ?_
  refine WO.ex rfl (Ob.makeMap hs2 rfl rfl fun _ => rfl) ?_
  rintro _ τ3 ⟨r11, rfl, hs3⟩
  refine ⟨_, rfl, ?_⟩
  clear hs2
  refine WO.run 1 rfl ?_
  refine WO.ex rfl (Ob.box hs3 rfl rfl rfl rfl fun _ => rfl) ?_
  rintro _ τ4 ⟨r13, rfl, hs4⟩
  refine ⟨_, rfl, ?_⟩
  clear hs3
  refine WO.ex rfl (Ob.alloc hs4 rfl rfl fun _ => rfl) ?_
  rintro _ τ5 ⟨r4, rfl, hs5⟩
  refine ⟨_, rfl, ?_⟩
  clear hs4
  refine WO.ex rfl (Ob.store hs5 4 rfl rfl rfl rfl rfl rfl rfl rfl) ?_
  rintro _ τ6 ⟨rfl, hs6⟩
  refine ⟨_, rfl, ?_⟩
  clear hs5
  refine WO.nil ?_
  show WC _ _ _ _ _ _
  refine WC.seq ?_
  refine WC.region ?_
  refine WO.ex rfl (Ob.alloc hs6 rfl rfl fun _ => rfl) ?_
  rintro _ τ7 ⟨r5, rfl, hs7⟩
  refine ⟨_, rfl, ?_⟩
  clear hs6
  refine WO.ex rfl (Ob.store hs7 5 rfl rfl rfl rfl rfl rfl rfl rfl) ?_
  rintro _ τ8 ⟨rfl, hs8⟩
  refine ⟨_, rfl, ?_⟩
  clear hs7
  refine WO.nil ?_
  show WC _ _ _ _ _ _
  refine WC.seq ?_
  refine WC.label ?_
  show WC _ _ _ _ _ _
  refine WC.seq ?_
  refine WC.seq ?_
  refine WC.region ?_
  refine WO.run 1 rfl ?_
  refine WO2.call rfl rfl rfl rfl rfl ?_
  refine WF.mono (linesF_wf _ _ _ _) ?_
  rintro _ τL ⟨rb, rfl, hxL⟩
  have hs9 := hs8.add' hxL rfl
  refine ⟨_, rfl, ?_⟩
  refine WO.nil ?_
  show WC _ _ _ _ _ _
  refine WC.block ?_
  have hsA := (hs9.nilSl 60 3 rfl).front 2 rfl rfl
  have hsB := (hsA.front 7 rfl rfl).front 4 rfl rfl
  refine WC.rangeFuncH hsB rfl rfl (fun _ _ => rfl) ?_
  intro l ob τ1 hob hsl
  refine WF.mono (lines_wf l rb bs p n k τ1 (hsl.rd1 (i := 7) rfl) (hb.fr hsl.fr (by simp)) (by omega) (InvR σ bs (.slice p n k) r13 r11 r2 r3 r4 r5 rb l ob) (FinR σ bs r2 r3 l) (by unfold InvR; exact ⟨rq0, none, 0, 0, rfl, sizeRq0, Nat.le_refl _, by omega, by omega, by omega, hsl⟩) ?_) ?_
  · intro i rest τ ⟨st, p1, k1, used, hrd, hsz, hfl, hir, hus, hrl, hsI⟩ hr1 hok
    have hct := cut_total hok
    have hne : rest ≠ [] := fun e => by rw [e, cut_nil (by decide)] at hok; cases hok
    have hsh := cut_shorter hok (by decide) hne
    have hcl := cut_lengths rest crlf
    have h3 := cut_three hok hne
    have hc2 : crlf.length = 2 := rfl
    simp only [rd] at hrd
    rw [if_neg (by simp [hok])] at hrd
    refine WY.roundH hob hsI 8 rfl rfl rfl (fun _ => rfl) ?_
    refine WC.seq ?_
    refine WC.region ?_
    refine WO.run 1 rfl ?_
    refine WO.nil ?_
    show WC _ _ _ _ _ _
    refine WC.region ?_
    refine WO.run 1 rfl ?_
    refine WO.nil ?_
    refine ⟨rfl, ?_⟩
    intro ob1 τ2 hob1 hsR
    refine WC.block ?_
    refine WC.seq ?_
    refine WC.region ?_
    refine WO2.op rfl (Ob.load rfl rfl (hsR.ld 6 rfl rfl)) rfl ?_
    refine WO.run 2 rfl ?_
    refine WO2.val (v' := .int .i64 (((Lib.cut rest crlf).1.length + 2 : Nat) : Int)) rfl rfl (iv_wrap (by omega) (by omega)) rfl ?_
    refine WO2.val (v' := .int .i64 ((used + ((Lib.cut rest crlf).1.length + 2) : Nat) : Int)) rfl rfl (iv_wrap (by omega) (by omega)) rfl ?_
    refine WO.ex rfl (Ob.store hsR 6 rfl rfl rfl rfl rfl rfl rfl rfl) ?_
    rintro _ τ10 ⟨rfl, hs10⟩
    refine ⟨_, rfl, ?_⟩
    refine WO.nil ?_
    show WC _ _ _ _ _ _
    refine WC.seq ?_
    refine WC.seq ?_
    refine WC.region ?_
    refine WO.run 2 rfl ?_
    refine WO.nil ?_
    show WC _ _ _ _ _ _
    refine WC.cond rfl (fun c24 => ?_) (fun c24 => ?_)
    · replace c24 := eq_of_beq c24
      refine WC.seq ?_
      refine WC.region ?_
      refine WO.run 1 rfl ?_
      refine WO.nil ?_
      show WC _ _ _ _ _ _
      refine WC.seq ?_
      refine WC.seq ?_
      refine WC.draw (by kernel_rfl) ?_
      refine WD2.op1 rfl rfl (Ob.load rfl rfl (hs10.ld 5 rfl rfl)) rfl ?_
      refine WD2.op1 rfl rfl (Ob.load rfl rfl (hs10.ld 5 rfl rfl)) rfl ?_
      refine WD.run 1 rfl ?_
      refine WD2.call rfl rfl rfl rfl rfl ?_
      have hfz := first_sizes (Lib.cut rest crlf).1
      refine WF.mono (first_wf (Lib.cut rest crlf).1 (by omega) _) ?_
      rintro _ _ ⟨rfl, rfl⟩
      refine ⟨_, rfl, ?_⟩
      refine WD.run 5 rfl ?_
      refine WD2.op0 rfl rfl (Ob.fieldAddr (k := 0) rfl rfl rfl rfl rfl rfl) rfl ?_
      refine WD.ex rfl rfl (Ob.store hs10 0 rfl rfl rfl rfl rfl rfl rfl rfl) ?_
      rintro _ τ11 ⟨rfl, hs11⟩
      refine ⟨_, rfl, ?_⟩
      refine WD.run 1 rfl ?_
      refine WD2.op0 rfl rfl (Ob.fieldAddr (k := 1) rfl rfl rfl rfl rfl rfl) rfl ?_
      refine WD.ex rfl rfl (Ob.store hs11 0 rfl rfl rfl rfl rfl rfl rfl rfl) ?_
      rintro _ τ12 ⟨rfl, hs12⟩
      refine ⟨_, rfl, ?_⟩
      refine WD.run 1 rfl ?_
      refine WD.nil ⟨reads_ok ⟨⟨.inl (by kernel_rfl), .inr (opR_load rfl (hs11.ld 5 rfl rfl)), .inr (opR_load rfl (hs10.ld 5 rfl rfl)), .inr (opR_load rfl (hs10.ld 5 rfl rfl)), trivial⟩, ⟨.inl (by kernel_rfl), .inl (by kernel_rfl), .inr (opR_load rfl (hs10.ld 5 rfl rfl)), .inr (opR_load rfl (hs10.ld 5 rfl rfl)), trivial⟩, trivial⟩, ?_⟩
      show WC _ _ _ _ _ _
      refine WC.seq ?_
      refine WC.region ?_
      refine WO.run 2 rfl ?_
      refine WO.nil ?_
      show WC _ _ _ _ _ _
      refine WC.cond rfl (fun c38 => ?_) (fun c38 => ?_)
      · replace c38 := not_true_eq c38
        refine WC.seq ?_
        refine WC.region ?_
        refine WO.run 1 rfl ?_
        refine WO.ex rfl (Ob.store hs12 3 rfl rfl rfl rfl rfl rfl rfl rfl) ?_
        rintro _ τ13 ⟨rfl, hs13⟩
        refine ⟨_, rfl, ?_⟩
        clear hs12
        refine WO.ex rfl (Ob.store hs13 4 rfl rfl rfl rfl rfl rfl rfl rfl) ?_
        rintro _ τ14 ⟨rfl, hs14⟩
        refine ⟨_, rfl, ?_⟩
        clear hs13
        refine WO.nil ?_
        show WC _ _ _ _ _ _
        refine WC.ret ?_
        repeat (first | refine blockQ_ret ?_ | refine thenQ_ret ?_)
        first
          | (rw [if_pos (show i = 0 by omega), if_neg (by simp [c38])] at hrd
             refine round_ret hob1 hs14 8 rfl (fun _ => rfl) ?_
             intro obr τ4 hobr hs4
             refine .inr ⟨rfl, obr, ⟨_, _, _, _, hobr⟩, .inl ⟨4, by unfold readL; rw [← hrd], ?_⟩⟩
             exact (((((hs4.del 7 rfl rfl).del 6 rfl rfl).del 5 rfl rfl).del 2 rfl rfl).del 1 rfl rfl).del 0 rfl rfl)
          | (rw [if_neg (show ¬ i = 0 by omega), if_neg c41, if_neg (by simp [c53])] at hrd
             refine round_ret hob1 (hs14.del 9 rfl rfl) 8 rfl (fun _ => rfl) ?_
             intro obr τ4 hobr hs4
             refine .inr ⟨rfl, obr, ⟨_, _, _, _, hobr⟩, .inl ⟨4, by unfold readL; rw [← hrd], ?_⟩⟩
             exact (((((hs4.del 7 rfl rfl).del 6 rfl rfl).del 5 rfl rfl).del 2 rfl rfl).del 1 rfl rfl).del 0 rfl rfl)
          | (rw [if_neg (show ¬ i = 0 by omega), if_pos c41] at hrd
             refine round_ret hob1 hs14 8 rfl (fun _ => rfl) ?_
             intro obr τ4 hobr hs4
             refine .inr ⟨rfl, obr, ⟨_, _, _, _, hobr⟩, ?_⟩
             first
               | exact .inl ⟨4, by unfold readL; rw [← hrd]; simp only; rw [ha], (((((hs4.del 7 rfl rfl).del 6 rfl rfl).del 5 rfl rfl).del 2 rfl rfl).del 1 rfl rfl).del 0 rfl rfl⟩
               | exact .inr ⟨fs', ss', u', q1, j1, q2, j2, by unfold readL; rw [← hrd]; simp only; rw [ha], (((((hs4.del 7 rfl rfl).del 6 rfl rfl).del 5 rfl rfl).del 2 rfl rfl).del 1 rfl rfl).del 0 rfl rfl⟩)
      · replace c38 := not_false_eq c38
        refine WC.skip ?_
        show WC _ _ _ _ _ _
        refine WC.exit ?_
        repeat (first | refine blockQ_norm ?_ | refine blockQ_exit ?_ | refine thenQ_exit ?_)
        first
          | (rw [if_pos (show i = 0 by omega), if_pos c38] at hrd
             refine round_norm hob1 hob hs12 8 rfl rfl ?_
             intro τ4 hs4
             refine .inl ⟨rfl, ⟨{ st with me := (firstL (Lib.cut rest crlf).1).1, pa := (firstL (Lib.cut rest crlf).1).2.1 }, p1, k1, used + ((Lib.cut rest crlf).1.length + 2), ?_, ⟨hsz.1, hsz.2.1, by show (firstL (Lib.cut rest crlf).1).1.length ≤ _; omega, by show (firstL (Lib.cut rest crlf).1).2.1.length ≤ _; omega⟩, by show st.fs.length ≤ _; omega, by omega, by omega, by omega, hs4⟩, first_nil c38⟩
             have hi0 : i = 0 := by omega
             rw [hi0]
             exact (rd_fuel _ _ _ _ _ _ (by omega) (by omega)).trans hrd)
          | (rw [if_neg (show ¬ i = 0 by omega), if_neg c41, if_pos c53] at hrd
             refine round_norm hob1 hob (hs12.del 9 rfl rfl) 8 rfl rfl ?_
             intro τ4 hs4
             exact .inl ⟨rfl, ⟨takesL st (lineF (Lib.cut rest crlf).1), p3, k3, used + ((Lib.cut rest crlf).1.length + 2), (rd_fuel _ _ _ _ _ _ (by omega) (by omega)).trans hrd, htz.1, by have := htz.2; omega, by omega, by omega, by omega, hs4⟩, c41⟩)
    · replace c24 := ne_of_beq_false c24
      refine WC.skip ?_
      show WC _ _ _ _ _ _
      refine WC.seq ?_
      refine WC.seq ?_
      refine WC.region ?_
      refine WO.run 2 rfl ?_
      refine WO.nil ?_
      show WC _ _ _ _ _ _
      refine WC.cond rfl (fun c41 => ?_) (fun c41 => ?_)
      · replace c41 := show _ = ([] : List UInt8) from eq_of_beq c41
        refine WC.seq ?_
        refine WC.region ?_
        refine WO2.op rfl (Ob.load rfl rfl (hs10.ld 5 rfl rfl)) rfl ?_
        refine WO2.op rfl (Ob.load rfl rfl (hs10.ld 6 rfl rfl)) rfl ?_
        refine WO2.call rfl rfl rfl rfl rfl ?_
        refine WF.mono (asked_wf st (used + ((Lib.cut rest crlf).1.length + 2)) r13 r11 p1 k1 _ (hs10.hpt 3) (by omega) hsz.1 hsz.2.1 hsz.2.2.1 hsz.2.2.2 (by omega)) ?_
        intro v τa hq
        rcases ha : askedL st (used + ((Lib.cut rest crlf).1.length + 2)) with _ | ⟨fs', ss', u'⟩
        · rw [ha] at hq
          obtain ⟨rfl, hxa⟩ := hq
          have hs15 := (hs10.call (l0 := AtsRq r13 r11 p1 k1 st) hxa).norm rfl
          refine ⟨_, rfl, ?_⟩
          refine WO.run 2 rfl ?_
          refine WO.ex rfl (Ob.store hs15 3 rfl rfl rfl rfl rfl rfl rfl rfl) ?_
          rintro _ τ16 ⟨rfl, hs16⟩
          refine ⟨_, rfl, ?_⟩
          clear hs15
          refine WO.ex rfl (Ob.store hs16 4 rfl rfl rfl rfl rfl rfl rfl rfl) ?_
          rintro _ τ17 ⟨rfl, hs17⟩
          refine ⟨_, rfl, ?_⟩
          clear hs16
          refine WO.nil ?_
          show WC _ _ _ _ _ _
          refine WC.ret ?_
          repeat (first | refine blockQ_ret ?_ | refine thenQ_ret ?_)
          first
            | (rw [if_pos (show i = 0 by omega), if_neg (by simp [c38])] at hrd
               refine round_ret hob1 hs17 8 rfl (fun _ => rfl) ?_
               intro obr τ4 hobr hs4
               refine .inr ⟨rfl, obr, ⟨_, _, _, _, hobr⟩, .inl ⟨4, by unfold readL; rw [← hrd], ?_⟩⟩
               exact (((((hs4.del 7 rfl rfl).del 6 rfl rfl).del 5 rfl rfl).del 2 rfl rfl).del 1 rfl rfl).del 0 rfl rfl)
            | (rw [if_neg (show ¬ i = 0 by omega), if_neg c41, if_neg (by simp [c53])] at hrd
               refine round_ret hob1 (hs17.del 9 rfl rfl) 8 rfl (fun _ => rfl) ?_
               intro obr τ4 hobr hs4
               refine .inr ⟨rfl, obr, ⟨_, _, _, _, hobr⟩, .inl ⟨4, by unfold readL; rw [← hrd], ?_⟩⟩
               exact (((((hs4.del 7 rfl rfl).del 6 rfl rfl).del 5 rfl rfl).del 2 rfl rfl).del 1 rfl rfl).del 0 rfl rfl)
            | (rw [if_neg (show ¬ i = 0 by omega), if_pos c41] at hrd
               refine round_ret hob1 hs17 8 rfl (fun _ => rfl) ?_
               intro obr τ4 hobr hs4
               refine .inr ⟨rfl, obr, ⟨_, _, _, _, hobr⟩, ?_⟩
               first
                 | exact .inl ⟨4, by unfold readL; rw [← hrd]; simp only; rw [ha], (((((hs4.del 7 rfl rfl).del 6 rfl rfl).del 5 rfl rfl).del 2 rfl rfl).del 1 rfl rfl).del 0 rfl rfl⟩
                 | exact .inr ⟨fs', ss', u', q1, j1, q2, j2, by unfold readL; rw [← hrd]; simp only; rw [ha], (((((hs4.del 7 rfl rfl).del 6 rfl rfl).del 5 rfl rfl).del 2 rfl rfl).del 1 rfl rfl).del 0 rfl rfl⟩)
        · rw [ha] at hq
          obtain ⟨q1, j1, q2, j2, rfl, hxa⟩ := hq
          have hs18 := (hs10.callN (l0 := AtsRq r13 r11 p1 k1 st) (l1 := AtsRq r13 r11 p1 k1 st) hxa).norm rfl
          refine ⟨_, rfl, ?_⟩
          refine WO.run 2 rfl ?_
          refine WO.ex rfl (Ob.store hs18 3 rfl rfl rfl rfl rfl rfl rfl rfl) ?_
          rintro _ τ19 ⟨rfl, hs19⟩
          refine ⟨_, rfl, ?_⟩
          clear hs18
          refine WO.ex rfl (Ob.store hs19 4 rfl rfl rfl rfl rfl rfl rfl rfl) ?_
          rintro _ τ20 ⟨rfl, hs20⟩
          refine ⟨_, rfl, ?_⟩
          clear hs19
          refine WO.nil ?_
          show WC _ _ _ _ _ _
          refine WC.ret ?_
          repeat (first | refine blockQ_ret ?_ | refine thenQ_ret ?_)
          first
            | (rw [if_pos (show i = 0 by omega), if_neg (by simp [c38])] at hrd
               refine round_ret hob1 hs20 8 rfl (fun _ => rfl) ?_
               intro obr τ4 hobr hs4
               refine .inr ⟨rfl, obr, ⟨_, _, _, _, hobr⟩, .inl ⟨4, by unfold readL; rw [← hrd], ?_⟩⟩
               exact (((((hs4.del 7 rfl rfl).del 6 rfl rfl).del 5 rfl rfl).del 2 rfl rfl).del 1 rfl rfl).del 0 rfl rfl)
            | (rw [if_neg (show ¬ i = 0 by omega), if_neg c41, if_neg (by simp [c53])] at hrd
               refine round_ret hob1 (hs20.del 9 rfl rfl) 8 rfl (fun _ => rfl) ?_
               intro obr τ4 hobr hs4
               refine .inr ⟨rfl, obr, ⟨_, _, _, _, hobr⟩, .inl ⟨4, by unfold readL; rw [← hrd], ?_⟩⟩
               exact (((((hs4.del 7 rfl rfl).del 6 rfl rfl).del 5 rfl rfl).del 2 rfl rfl).del 1 rfl rfl).del 0 rfl rfl)
            | (rw [if_neg (show ¬ i = 0 by omega), if_pos c41] at hrd
               refine round_ret hob1 hs20 8 rfl (fun _ => rfl) ?_
               intro obr τ4 hobr hs4
               refine .inr ⟨rfl, obr, ⟨_, _, _, _, hobr⟩, ?_⟩
               first
                 | exact .inl ⟨4, by unfold readL; rw [← hrd]; simp only; rw [ha], (((((hs4.del 7 rfl rfl).del 6 rfl rfl).del 5 rfl rfl).del 2 rfl rfl).del 1 rfl rfl).del 0 rfl rfl⟩
                 | exact .inr ⟨fs', ss', u', q1, j1, q2, j2, by unfold readL; rw [← hrd]; simp only; rw [ha], (((((hs4.del 7 rfl rfl).del 6 rfl rfl).del 5 rfl rfl).del 2 rfl rfl).del 1 rfl rfl).del 0 rfl rfl⟩)
      · replace c41 := show _ ≠ ([] : List UInt8) from ne_of_beq_false c41
        refine WC.skip ?_
        show WC _ _ _ _ _ _
        refine WC.seq ?_
        refine WC.region ?_
        refine WO.run 1 rfl ?_
        refine WO2.call rfl rfl rfl rfl rfl ?_
        refine WF.mono (line_wf (Lib.cut rest crlf).1 (by omega) _) ?_
        rintro _ τn ⟨rfl, hxn⟩
        have hs21 := hs10.add' hxn rfl
        refine ⟨_, rfl, ?_⟩
        refine WO.run 3 rfl ?_
        refine WO.ex rfl (Ob.alloc hs21 rfl rfl fun _ => rfl) ?_
        rintro _ τ22 ⟨r9, rfl, hs22⟩
        refine ⟨_, rfl, ?_⟩
        clear hs21
        refine WO.ex rfl (Ob.store hs22 9 rfl rfl rfl rfl rfl rfl rfl rfl) ?_
        rintro _ τ23 ⟨rfl, hs23⟩
        refine ⟨_, rfl, ?_⟩
        clear hs22
        refine WO.run 1 rfl ?_
        refine WO.nil ?_
        show WC _ _ _ _ _ _
        refine WC.seq ?_
        refine WC.seq ?_
        refine WC.region ?_
        refine WO.run 2 rfl ?_
        refine WO.nil ?_
        show WC _ _ _ _ _ _
        refine WC.cond rfl (fun c53 => ?_) (fun c53 => ?_)
        · replace c53 := not_true_eq c53
          refine WC.seq ?_
          refine WC.region ?_
          refine WO.run 1 rfl ?_
          refine WO.ex rfl (Ob.store hs23 3 rfl rfl rfl rfl rfl rfl rfl rfl) ?_
          rintro _ τ24 ⟨rfl, hs24⟩
          refine ⟨_, rfl, ?_⟩
          clear hs23
          refine WO.ex rfl (Ob.store hs24 4 rfl rfl rfl rfl rfl rfl rfl rfl) ?_
          rintro _ τ25 ⟨rfl, hs25⟩
          refine ⟨_, rfl, ?_⟩
          clear hs24
          refine WO.nil ?_
          show WC _ _ _ _ _ _
          refine WC.ret ?_
          repeat (first | refine blockQ_ret ?_ | refine thenQ_ret ?_)
          first
            | (rw [if_pos (show i = 0 by omega), if_neg (by simp [c38])] at hrd
               refine round_ret hob1 hs25 8 rfl (fun _ => rfl) ?_
               intro obr τ4 hobr hs4
               refine .inr ⟨rfl, obr, ⟨_, _, _, _, hobr⟩, .inl ⟨4, by unfold readL; rw [← hrd], ?_⟩⟩
               exact (((((hs4.del 7 rfl rfl).del 6 rfl rfl).del 5 rfl rfl).del 2 rfl rfl).del 1 rfl rfl).del 0 rfl rfl)
            | (rw [if_neg (show ¬ i = 0 by omega), if_neg c41, if_neg (by simp [c53])] at hrd
               refine round_ret hob1 (hs25.del 9 rfl rfl) 8 rfl (fun _ => rfl) ?_
               intro obr τ4 hobr hs4
               refine .inr ⟨rfl, obr, ⟨_, _, _, _, hobr⟩, .inl ⟨4, by unfold readL; rw [← hrd], ?_⟩⟩
               exact (((((hs4.del 7 rfl rfl).del 6 rfl rfl).del 5 rfl rfl).del 2 rfl rfl).del 1 rfl rfl).del 0 rfl rfl)
            | (rw [if_neg (show ¬ i = 0 by omega), if_pos c41] at hrd
               refine round_ret hob1 hs25 8 rfl (fun _ => rfl) ?_
               intro obr τ4 hobr hs4
               refine .inr ⟨rfl, obr, ⟨_, _, _, _, hobr⟩, ?_⟩
               first
                 | exact .inl ⟨4, by unfold readL; rw [← hrd]; simp only; rw [ha], (((((hs4.del 7 rfl rfl).del 6 rfl rfl).del 5 rfl rfl).del 2 rfl rfl).del 1 rfl rfl).del 0 rfl rfl⟩
                 | exact .inr ⟨fs', ss', u', q1, j1, q2, j2, by unfold readL; rw [← hrd]; simp only; rw [ha], (((((hs4.del 7 rfl rfl).del 6 rfl rfl).del 5 rfl rfl).del 2 rfl rfl).del 1 rfl rfl).del 0 rfl rfl⟩)
        · replace c53 := not_false_eq c53
          refine WC.skip ?_
          show WC _ _ _ _ _ _
          refine WC.region ?_
          refine WO2.op rfl (Ob.load rfl rfl (hs23.ld 5 rfl rfl)) rfl ?_
          refine WO2.op rfl (Ob.load rfl rfl (hs23.ld 9 rfl rfl)) rfl ?_
          refine WO2.call rfl rfl rfl rfl rfl ?_
          refine WF.mono (takes_wf st (lineF (Lib.cut rest crlf).1) r13 r11 p1 k1 _ (hs23.hpt 3) (by omega)) ?_
          rintro _ τt ⟨p3, k3, rfl, hxt⟩
          have hs26 := (hs23.call (l0 := AtsRq r13 r11 p1 k1 st) hxt).norm rfl
          have htz := takes_sizes hsz (s := (Lib.cut rest crlf).1) (by omega)
          refine ⟨_, rfl, ?_⟩
          refine WO.nil ?_
          repeat (first | refine blockQ_norm ?_ | refine blockQ_exit ?_ | refine thenQ_exit ?_)
          first
            | (rw [if_pos (show i = 0 by omega), if_pos c38] at hrd
               refine round_norm hob1 hob hs26 8 rfl rfl ?_
               intro τ4 hs4
               refine .inl ⟨rfl, ⟨{ st with me := (firstL (Lib.cut rest crlf).1).1, pa := (firstL (Lib.cut rest crlf).1).2.1 }, p1, k1, used + ((Lib.cut rest crlf).1.length + 2), ?_, ⟨hsz.1, hsz.2.1, by show (firstL (Lib.cut rest crlf).1).1.length ≤ _; omega, by show (firstL (Lib.cut rest crlf).1).2.1.length ≤ _; omega⟩, by show st.fs.length ≤ _; omega, by omega, by omega, by omega, hs4⟩, first_nil c38⟩
               have hi0 : i = 0 := by omega
               rw [hi0]
               exact (rd_fuel _ _ _ _ _ _ (by omega) (by omega)).trans hrd)
            | (rw [if_neg (show ¬ i = 0 by omega), if_neg c41, if_pos c53] at hrd
               refine round_norm hob1 hob (hs26.del 9 rfl rfl) 8 rfl rfl ?_
               intro τ4 hs4
               exact .inl ⟨rfl, ⟨takesL st (lineF (Lib.cut rest crlf).1), p3, k3, used + ((Lib.cut rest crlf).1.length + 2), (rd_fuel _ _ _ _ _ _ (by omega) (by omega)).trans hrd, htz.1, by have := htz.2; omega, by omega, by omega, by omega, hs4⟩, c41⟩)
  rintro _ τ2 (⟨ob2, ⟨s2, ps2, asg2, body2, rfl⟩, hfin⟩ | ⟨i, rest, ⟨st, p1, k1, used, hrd, hsz, hfl, hir, hus, hrl, hsI⟩, hno⟩)
  · rcases hfin with ⟨c, hL, hsf⟩ | ⟨fs, ss, u, q1, j1, q2, j2, hL, hsf⟩
    · refine ⟨2, some .ret, _, _, _, _, 2, _, _, hsf, rfl, by decide, rfl, ?_⟩
      intro τ3 hs3
      refine ⟨_, (res_cell rfl (hs3.ld 0 rfl rfl) (res_cell rfl (hs3.ld 1 rfl rfl) res_nil)), ?_⟩
      rw [hL]
      exact ⟨rfl, hs3.none⟩
    · refine ⟨2, some .ret, _, _, _, _, 2, _, _, hsf, rfl, by decide, rfl, ?_⟩
      intro τ3 hs3
      refine ⟨_, (res_cell rfl (hs3.ld 0 rfl rfl) (res_cell rfl (hs3.ld 1 rfl rfl) res_nil)), ?_⟩
      rw [hL]
      exact ⟨_, _, _, _, rfl, (hs3.del 1 rfl rfl).del 0 rfl rfl⟩
  subst hob
  simp only [rd, hno, if_true] at hrd
  refine ⟨0, none, _, _, _, _, 8, _, _, hsI, rfl, by decide, rfl, ?_⟩
  intro τ3 hs3
  show WC _ _ _ _ _ _
  refine WC.seq ?_
  refine WC.seq ?_
  refine WC.region ?_
  refine WO.run 3 rfl ?_
  refine WO.nil ?_
  show WC _ _ _ _ _ _
  refine WC.cond rfl (fun c60 => ?_) (fun c60 => ?_)
  · replace c60 := of_decide_eq_true c60
    refine WC.seq ?_
    refine WC.region ?_
    refine WO.run 1 rfl ?_
    refine WO.ex rfl (Ob.store hs3 3 rfl rfl rfl rfl rfl rfl rfl rfl) ?_
    rintro _ τ27 ⟨rfl, hs27⟩
    refine ⟨_, rfl, ?_⟩
    clear hs3
    refine WO.ex rfl (Ob.store hs27 4 rfl rfl rfl rfl rfl rfl rfl rfl) ?_
    rintro _ τ28 ⟨rfl, hs28⟩
    refine ⟨_, rfl, ?_⟩
    clear hs27
    refine WO.nil ?_
    show WC _ _ _ _ _ _
    refine WC.ret ?_
    refine ⟨_, (res_cell rfl (hs28.ld 3 rfl rfl) (res_cell rfl (hs28.ld 4 rfl rfl) res_nil)), ?_⟩
    first
      | (have hL : readL bs = .no 4 := by unfold readL; rw [← hrd]; simp only; rw [if_pos (by omega)]
         rw [hL]
         exact ⟨rfl, hs28.none⟩)
      | (have hL : readL bs = .no 3 := by unfold readL; rw [← hrd]; simp only; rw [if_neg (by omega)]
         rw [hL]
         exact ⟨rfl, hs28.none⟩)
  · replace c60 := of_decide_eq_false c60
    refine WC.skip ?_
    show WC _ _ _ _ _ _
    refine WC.seq ?_
    refine WC.region ?_
    refine WO.run 1 rfl ?_
    refine WO.ex rfl (Ob.store hs3 3 rfl rfl rfl rfl rfl rfl rfl rfl) ?_
    rintro _ τ29 ⟨rfl, hs29⟩
    refine ⟨_, rfl, ?_⟩
    clear hs3
    refine WO.ex rfl (Ob.store hs29 4 rfl rfl rfl rfl rfl rfl rfl rfl) ?_
    rintro _ τ30 ⟨rfl, hs30⟩
    refine ⟨_, rfl, ?_⟩
    clear hs29
    refine WO.nil ?_
    show WC _ _ _ _ _ _
    refine WC.ret ?_
    refine ⟨_, (res_cell rfl (hs30.ld 3 rfl rfl) (res_cell rfl (hs30.ld 4 rfl rfl) res_nil)), ?_⟩
    first
      | (have hL : readL bs = .no 4 := by unfold readL; rw [← hrd]; simp only; rw [if_pos (by omega)]
         rw [hL]
         exact ⟨rfl, hs30.none⟩)
      | (have hL : readL bs = .no 3 := by unfold readL; rw [← hrd]; simp only; rw [if_neg (by omega)]
         rw [hL]
         exact ⟨rfl, hs30.none⟩)
end Go.Proofs.YtamplhegepgaeaaDoor
end
section
/- Walks of this layer's functions on the logical memory, part 18: the law. -/
open Go Go.LZ
namespace Go.Proofs.YtamplhegepgaeaaDoor
set_option maxRecDepth 10000
set_option linter.unusedSimpArgs false
set_option linter.unusedVariables false
theorem take_eq_of {α : Type} {a b : List α} {i : Nat} (h : a.length = b.length) (hi : a.length ≤ i) (ht : a.take i = b.take i) : a = b := by
  rwa [List.take_of_length_le hi, List.take_of_length_le (by omega)] at ht
theorem take_step {α : Type} {a b : List α} {i : Nat} {x : α} (ha : a[i]? = some x) (hb : b[i]? = some x) (ht : a.take i = b.take i) : a.take (i + 1) = b.take (i + 1) := by
  rw [take_succ_at ha, take_succ_at hb, ht]
theorem getElem_ne {α : Type} {a b : List α} {i : Nat} {x y : α} (ha : a[i]? = some x) (hb : b[i]? = some y) (hn : x ≠ y) : a ≠ b := by
  rintro rfl
  rw [ha] at hb
  exact hn (Option.some.inj hb)
theorem eqFields_wf (fa fb : List Fld) (p q : P3) (n k m j : Nat) (σ : LZ.H) (hfa : RdL σ encF 3 p n k fa) (hfb : RdL σ encF 3 q m j fb) (hn : n ≤ 1099511627776) (hm : m ≤ 1099511627776) :
    WF Tryd.prog ext 11 [.slice p n k, .slice q m j] σ (fun v σ' => v = .bool (decide (fa = fb)) ∧ Hs [] σ σ' []) := by
  refine WF.body rfl Tryd.func11 rfl rfl ?_
  have hs0 := Hs.nil σ
  have hla := hfa.len
  have hlb := hfb.len
  refine WC.seq ?_
  refine WC.region ?_
  refine WO.run 1 rfl ?_
  refine WO.nil ?_
  show WC _ _ _ _ _ _
  refine WC.seq ?_
  refine WC.seq ?_
  refine WC.region ?_
  refine WO.run 5 rfl ?_
  refine WO.nil ?_
  show WC _ _ _ _ _ _
  refine WC.cond rfl (fun c10 => ?_) (fun c10 => ?_)
  · replace c10 := bne_iff_ne.1 c10
    refine WC.seq ?_
    refine WC.region ?_
    refine WO.run 1 rfl ?_
    refine WO.nil ?_
    show WC _ _ _ _ _ _
    refine WC.ret ?_
    refine ⟨_, (res_tmp rfl res_nil), ?_⟩
    have hm1 : fa.length = n := hla.symm
    first
      | (refine ⟨?_, hs0⟩
         rw [decide_eq_false (fun e => c10 (by rw [hla, hlb, e]))]
         rfl)
      | (refine ⟨?_, hs⟩
         rw [decide_eq_false (getElem_ne hy19 hy24 (fun e => h28 (by rw [e])))]
         rfl)
      | (refine ⟨?_, hs⟩
         rw [decide_eq_false (getElem_ne hy31 hy36 (fun e => h41 (by rw [e])))]
         rfl)
      | (refine ⟨?_, hs⟩
         rw [decide_eq_false (getElem_ne hy44 hy49 (fun e => by rw [e] at c53; simp at c53))]
         rfl)
      | (refine ⟨?_, hs⟩
         rw [decide_eq_true (take_eq_of (i := i) (by omega) (by omega) ht)]
         rfl)
  · replace c10 := eq_of_bne_false c10
    refine WC.skip ?_
    show WC _ _ _ _ _ _
    refine WC.seq ?_
    refine WC.seq ?_
    refine WC.region ?_
    refine WO.run 1 rfl ?_
    refine WO.nil ?_
    show WC _ _ _ _ _ _
    refine WC.block ?_
    refine WC.lp1 (fun (i : Nat) => [(5, .int .i64 (i : Int))]) [4, 11, 12, 13, 14, 15, 16, 17, 18, 19, 20, 21, 22, 23, 24, 25, 26, 27, 28, 29, 30, 31, 32, 33, 34, 35, 36, 37, 38, 39, 40, 41, 42, 43, 44, 45, 46, 47, 48, 49, 50, 51, 52, 53] (fun (i : Nat) => fun τ => Hs [] σ τ [] ∧ i ≤ n ∧ fa.take i = fb.take i) (fun (i : Nat) => n - i) (0) (fun _ _ => rfl) rfl ⟨hs0, by omega, rfl⟩ ?_
    rintro i g τ ⟨hs, hi, ht⟩
    refine WC.seq ?_
    refine WC.seq ?_
    refine WC.region ?_
    refine WO.run 4 rfl ?_
    refine WO.nil ?_
    show WC _ _ _ _ _ _
    refine WC.cond rfl (fun c14 => ?_) (fun c14 => ?_)
    · replace c14 := of_decide_eq_true c14
      refine WC.skip ?_
      show WC _ _ _ _ _ _
      refine WC.seq ?_
      refine WC.block ?_
      refine WC.seq ?_
      refine WC.draw (by kernel_rfl) ?_
      refine WD.run 2 rfl ?_
      refine WD.ex0 rfl rfl (Ob.indexN hfa rfl rfl rfl rfl rfl (by omega)) ?_
      rintro _ ⟨-, r19, o19, y19, rfl, hy19, hr19, hd19⟩
      refine ⟨_, rfl, ?_⟩
      refine WD2.op0 rfl rfl (Ob.fieldAddr (k := 0) rfl rfl rfl rfl rfl rfl) rfl ?_
      refine WD2.op1 rfl rfl (Ob.load rfl rfl (hd19.ldf hs.fr List.not_mem_nil (k := 0) rfl rfl)) rfl ?_
      refine WD.run 2 rfl ?_
      refine WD.ex0 rfl rfl (Ob.indexN hfb rfl rfl rfl rfl rfl (by omega)) ?_
      rintro _ ⟨-, r24, o24, y24, rfl, hy24, hr24, hd24⟩
      refine ⟨_, rfl, ?_⟩
      refine WD2.op0 rfl rfl (Ob.fieldAddr (k := 0) rfl rfl rfl rfl rfl rfl) rfl ?_
      refine WD2.op1 rfl rfl (Ob.load rfl rfl (hd24.ldf hs.fr List.not_mem_nil (k := 0) rfl rfl)) rfl ?_
      refine WD.run 1 rfl ?_
      refine WD2.both rfl rfl rfl (fun h28 => ?_) (fun h28 => ?_)
      · refine ⟨_, rfl, ?_⟩
        replace h28 := bne_iff_ne.1 h28
        refine WD.run 25 rfl ?_
        refine WD.nil ⟨reads_ok ⟨⟨.inr (opR_load rfl (hd24.ldf hs.fr List.not_mem_nil (k := 0) rfl rfl)), trivial⟩, ⟨.inr (opR_load rfl (hd19.ldf hs.fr List.not_mem_nil (k := 0) rfl rfl)), trivial⟩, trivial⟩, ?_⟩
        show WC _ _ _ _ _ _
        refine WC.cond rfl (fun _ => ?_) (fun hc => ?_)
        rotate_left
        · first | exact absurd hc (by decide) | (exfalso; simp_all; done)
        refine WC.seq ?_
        refine WC.region ?_
        refine WO.run 1 rfl ?_
        refine WO.nil ?_
        show WC _ _ _ _ _ _
        refine WC.ret ?_
        refine ⟨_, (res_tmp rfl res_nil), ?_⟩
        have hm1 : fa.length = n := hla.symm
        first
          | (refine ⟨?_, hs0⟩
             rw [decide_eq_false (fun e => c10 (by rw [hla, hlb, e]))]
             rfl)
          | (refine ⟨?_, hs⟩
             rw [decide_eq_false (getElem_ne hy19 hy24 (fun e => h28 (by rw [e])))]
             rfl)
          | (refine ⟨?_, hs⟩
             rw [decide_eq_false (getElem_ne hy31 hy36 (fun e => h41 (by rw [e])))]
             rfl)
          | (refine ⟨?_, hs⟩
             rw [decide_eq_false (getElem_ne hy44 hy49 (fun e => by rw [e] at c53; simp at c53))]
             rfl)
          | (refine ⟨?_, hs⟩
             rw [decide_eq_true (take_eq_of (i := i) (by omega) (by omega) ht)]
             rfl)
      · refine ⟨_, rfl, ?_⟩
        replace h28 := eq_of_bne_false h28
        refine WD.run 2 rfl ?_
        refine WD.ex0 rfl rfl (Ob.indexN hfa rfl rfl rfl rfl rfl (by omega)) ?_
        rintro _ ⟨-, r31, o31, y31, rfl, hy31, hr31, hd31⟩
        refine ⟨_, rfl, ?_⟩
        refine WD2.op0 rfl rfl (Ob.fieldAddr (k := 1) rfl rfl rfl rfl rfl rfl) rfl ?_
        refine WD2.op1 rfl rfl (Ob.load rfl rfl (hd31.ldf hs.fr List.not_mem_nil (k := 1) rfl rfl)) rfl ?_
        refine WD.run 2 rfl ?_
        refine WD.ex0 rfl rfl (Ob.indexN hfb rfl rfl rfl rfl rfl (by omega)) ?_
        rintro _ ⟨-, r36, o36, y36, rfl, hy36, hr36, hd36⟩
        refine ⟨_, rfl, ?_⟩
        refine WD2.op0 rfl rfl (Ob.fieldAddr (k := 1) rfl rfl rfl rfl rfl rfl) rfl ?_
        refine WD2.op1 rfl rfl (Ob.load rfl rfl (hd36.ldf hs.fr List.not_mem_nil (k := 1) rfl rfl)) rfl ?_
        refine WD.run 2 rfl ?_
        refine WD2.both rfl rfl rfl (fun h41 => ?_) (fun h41 => ?_)
        · refine ⟨_, rfl, ?_⟩
          replace h41 := bne_iff_ne.1 h41
          refine WD.run 12 rfl ?_
          refine WD.nil ⟨reads_ok ⟨⟨.inr (opR_load rfl (hd36.ldf hs.fr List.not_mem_nil (k := 1) rfl rfl)), trivial⟩, ⟨.inr (opR_load rfl (hd31.ldf hs.fr List.not_mem_nil (k := 1) rfl rfl)), trivial⟩, ⟨.inr (opR_load rfl (hd24.ldf hs.fr List.not_mem_nil (k := 0) rfl rfl)), trivial⟩, ⟨.inr (opR_load rfl (hd19.ldf hs.fr List.not_mem_nil (k := 0) rfl rfl)), trivial⟩, trivial⟩, ?_⟩
          show WC _ _ _ _ _ _
          refine WC.cond rfl (fun _ => ?_) (fun hc => ?_)
          rotate_left
          · first | exact absurd hc (by decide) | (exfalso; simp_all; done)
          refine WC.seq ?_
          refine WC.region ?_
          refine WO.run 1 rfl ?_
          refine WO.nil ?_
          show WC _ _ _ _ _ _
          refine WC.ret ?_
          refine ⟨_, (res_tmp rfl res_nil), ?_⟩
          have hm1 : fa.length = n := hla.symm
          first
            | (refine ⟨?_, hs0⟩
               rw [decide_eq_false (fun e => c10 (by rw [hla, hlb, e]))]
               rfl)
            | (refine ⟨?_, hs⟩
               rw [decide_eq_false (getElem_ne hy19 hy24 (fun e => h28 (by rw [e])))]
               rfl)
            | (refine ⟨?_, hs⟩
               rw [decide_eq_false (getElem_ne hy31 hy36 (fun e => h41 (by rw [e])))]
               rfl)
            | (refine ⟨?_, hs⟩
               rw [decide_eq_false (getElem_ne hy44 hy49 (fun e => by rw [e] at c53; simp at c53))]
               rfl)
            | (refine ⟨?_, hs⟩
               rw [decide_eq_true (take_eq_of (i := i) (by omega) (by omega) ht)]
               rfl)
        · refine ⟨_, rfl, ?_⟩
          replace h41 := eq_of_bne_false h41
          refine WD.run 2 rfl ?_
          refine WD.ex0 rfl rfl (Ob.indexN hfa rfl rfl rfl rfl rfl (by omega)) ?_
          rintro _ ⟨-, r44, o44, y44, rfl, hy44, hr44, hd44⟩
          refine ⟨_, rfl, ?_⟩
          refine WD2.op0 rfl rfl (Ob.fieldAddr (k := 2) rfl rfl rfl rfl rfl rfl) rfl ?_
          refine WD2.op1 rfl rfl (Ob.load rfl rfl (hd44.ldf hs.fr List.not_mem_nil (k := 2) rfl rfl)) rfl ?_
          refine WD.run 2 rfl ?_
          refine WD.ex0 rfl rfl (Ob.indexN hfb rfl rfl rfl rfl rfl (by omega)) ?_
          rintro _ ⟨-, r49, o49, y49, rfl, hy49, hr49, hd49⟩
          refine ⟨_, rfl, ?_⟩
          refine WD2.op0 rfl rfl (Ob.fieldAddr (k := 2) rfl rfl rfl rfl rfl rfl) rfl ?_
          refine WD2.op1 rfl rfl (Ob.load rfl rfl (hd49.ldf hs.fr List.not_mem_nil (k := 2) rfl rfl)) rfl ?_
          refine WD.run 2 rfl ?_
          refine WD.nil ⟨reads_ok ⟨⟨.inr (opR_load rfl (hd49.ldf hs.fr List.not_mem_nil (k := 2) rfl rfl)), trivial⟩, ⟨.inr (opR_load rfl (hd44.ldf hs.fr List.not_mem_nil (k := 2) rfl rfl)), trivial⟩, ⟨.inr (opR_load rfl (hd36.ldf hs.fr List.not_mem_nil (k := 1) rfl rfl)), trivial⟩, ⟨.inr (opR_load rfl (hd31.ldf hs.fr List.not_mem_nil (k := 1) rfl rfl)), trivial⟩, ⟨.inr (opR_load rfl (hd24.ldf hs.fr List.not_mem_nil (k := 0) rfl rfl)), trivial⟩, ⟨.inr (opR_load rfl (hd19.ldf hs.fr List.not_mem_nil (k := 0) rfl rfl)), trivial⟩, trivial⟩, ?_⟩
          show WC _ _ _ _ _ _
          refine WC.cond rfl (fun c53 => ?_) (fun c53 => ?_)
          · refine WC.seq ?_
            refine WC.region ?_
            refine WO.run 1 rfl ?_
            refine WO.nil ?_
            show WC _ _ _ _ _ _
            refine WC.ret ?_
            refine ⟨_, (res_tmp rfl res_nil), ?_⟩
            have hm1 : fa.length = n := hla.symm
            first
              | (refine ⟨?_, hs0⟩
                 rw [decide_eq_false (fun e => c10 (by rw [hla, hlb, e]))]
                 rfl)
              | (refine ⟨?_, hs⟩
                 rw [decide_eq_false (getElem_ne hy19 hy24 (fun e => h28 (by rw [e])))]
                 rfl)
              | (refine ⟨?_, hs⟩
                 rw [decide_eq_false (getElem_ne hy31 hy36 (fun e => h41 (by rw [e])))]
                 rfl)
              | (refine ⟨?_, hs⟩
                 rw [decide_eq_false (getElem_ne hy44 hy49 (fun e => by rw [e] at c53; simp at c53))]
                 rfl)
              | (refine ⟨?_, hs⟩
                 rw [decide_eq_true (take_eq_of (i := i) (by omega) (by omega) ht)]
                 rfl)
          · refine WC.skip ?_
            show WC _ _ _ _ _ _
            refine WC.region ?_
            refine WO.run 1 rfl ?_
            refine WO2.val (v' := .int .i64 ((i + 1 : Nat) : Int)) rfl rfl (iv_wrap (by omega) (by omega)) rfl ?_
            refine WO.run 1 rfl ?_
            refine WO.nil ?_
            have e31 : y31 = y19 := Option.some.inj (hy31.symm.trans hy19)
            have e44 : y44 = y19 := Option.some.inj (hy44.symm.trans hy19)
            have e36 : y36 = y24 := Option.some.inj (hy36.symm.trans hy24)
            have e49 : y49 = y24 := Option.some.inj (hy49.symm.trans hy24)
            have hne : y19.never = y24.never := by rw [e44, e49] at c53; revert c53; cases y19.never <;> cases y24.never <;> decide
            have hee : y19 = y24 := by
              rw [e31, e36] at h41
              rcases y19 with ⟨a, b, c⟩
              rcases y24 with ⟨a', b', c'⟩
              simp only at h28 h41 hne
              rw [h28, h41, hne]
            exact ⟨i + 1, rfl, ⟨hs, by omega, take_step hy19 (hee ▸ hy24) ht⟩, by omega⟩
    · replace c14 := of_decide_eq_false c14
      refine WC.exit ?_
      show WC _ _ _ _ _ _
      refine WC.seq ?_
      refine WC.region ?_
      refine WO.run 1 rfl ?_
      refine WO.nil ?_
      show WC _ _ _ _ _ _
      refine WC.ret ?_
      refine ⟨_, (res_tmp rfl res_nil), ?_⟩
      have hm1 : fa.length = n := hla.symm
      first
        | (refine ⟨?_, hs0⟩
           rw [decide_eq_false (fun e => c10 (by rw [hla, hlb, e]))]
           rfl)
        | (refine ⟨?_, hs⟩
           rw [decide_eq_false (getElem_ne hy19 hy24 (fun e => h28 (by rw [e])))]
           rfl)
        | (refine ⟨?_, hs⟩
           rw [decide_eq_false (getElem_ne hy31 hy36 (fun e => h41 (by rw [e])))]
           rfl)
        | (refine ⟨?_, hs⟩
           rw [decide_eq_false (getElem_ne hy44 hy49 (fun e => by rw [e] at c53; simp at c53))]
           rfl)
        | (refine ⟨?_, hs⟩
           rw [decide_eq_true (take_eq_of (i := i) (by omega) (by omega) ht)]
           rfl)
theorem settings_wf (fa fb : List Stg) (p q : P3) (n k m j : Nat) (σ : LZ.H) (hfa : RdL σ encT 2 p n k fa) (hfb : RdL σ encT 2 q m j fb) (hn : n ≤ 1099511627776) (hm : m ≤ 1099511627776) :
    WF Tryd.prog ext 12 [.slice p n k, .slice q m j] σ (fun v σ' => v = .bool (decide (fa = fb)) ∧ Hs [] σ σ' []) := by
  refine WF.body rfl Tryd.func12 rfl rfl ?_
  have hs0 := Hs.nil σ
  have hla := hfa.len
  have hlb := hfb.len
  refine WC.seq ?_
  refine WC.region ?_
  refine WO.run 1 rfl ?_
  refine WO.nil ?_
  show WC _ _ _ _ _ _
  refine WC.seq ?_
  refine WC.seq ?_
  refine WC.region ?_
  refine WO.run 5 rfl ?_
  refine WO.nil ?_
  show WC _ _ _ _ _ _
  refine WC.cond rfl (fun c10 => ?_) (fun c10 => ?_)
  · replace c10 := bne_iff_ne.1 c10
    refine WC.seq ?_
    refine WC.region ?_
    refine WO.run 1 rfl ?_
    refine WO.nil ?_
    show WC _ _ _ _ _ _
    refine WC.ret ?_
    refine ⟨_, (res_tmp rfl res_nil), ?_⟩
    have hm1 : fa.length = n := hla.symm
    first
      | (refine ⟨?_, hs0⟩
         rw [decide_eq_false (fun e => c10 (by rw [hla, hlb, e]))]
         rfl)
      | (refine ⟨?_, hs⟩
         rw [decide_eq_false (getElem_ne hy19 hy24 (fun e => h28 (by rw [e])))]
         rfl)
      | (refine ⟨?_, hs⟩
         rw [decide_eq_false (getElem_ne hy31 hy36 (fun e => c40 (by rw [e])))]
         rfl)
      | (refine ⟨?_, hs⟩
         rw [decide_eq_true (take_eq_of (i := i) (by omega) (by omega) ht)]
         rfl)
  · replace c10 := eq_of_bne_false c10
    refine WC.skip ?_
    show WC _ _ _ _ _ _
    refine WC.seq ?_
    refine WC.seq ?_
    refine WC.region ?_
    refine WO.run 1 rfl ?_
    refine WO.nil ?_
    show WC _ _ _ _ _ _
    refine WC.block ?_
    refine WC.lp1 (fun (i : Nat) => [(5, .int .i64 (i : Int))]) [4, 11, 12, 13, 14, 15, 16, 17, 18, 19, 20, 21, 22, 23, 24, 25, 26, 27, 28, 29, 30, 31, 32, 33, 34, 35, 36, 37, 38, 39, 40] (fun (i : Nat) => fun τ => Hs [] σ τ [] ∧ i ≤ n ∧ fa.take i = fb.take i) (fun (i : Nat) => n - i) (0) (fun _ _ => rfl) rfl ⟨hs0, by omega, rfl⟩ ?_
    rintro i g τ ⟨hs, hi, ht⟩
    refine WC.seq ?_
    refine WC.seq ?_
    refine WC.region ?_
    refine WO.run 4 rfl ?_
    refine WO.nil ?_
    show WC _ _ _ _ _ _
    refine WC.cond rfl (fun c14 => ?_) (fun c14 => ?_)
    · replace c14 := of_decide_eq_true c14
      refine WC.skip ?_
      show WC _ _ _ _ _ _
      refine WC.seq ?_
      refine WC.block ?_
      refine WC.seq ?_
      refine WC.draw (by kernel_rfl) ?_
      refine WD.run 2 rfl ?_
      refine WD.ex0 rfl rfl (Ob.indexN hfa rfl rfl rfl rfl rfl (by omega)) ?_
      rintro _ ⟨-, r19, o19, y19, rfl, hy19, hr19, hd19⟩
      refine ⟨_, rfl, ?_⟩
      refine WD2.op0 rfl rfl (Ob.fieldAddr (k := 0) rfl rfl rfl rfl rfl rfl) rfl ?_
      refine WD2.op1 rfl rfl (Ob.load rfl rfl (hd19.ldf hs.fr List.not_mem_nil (k := 0) rfl rfl)) rfl ?_
      refine WD.run 2 rfl ?_
      refine WD.ex0 rfl rfl (Ob.indexN hfb rfl rfl rfl rfl rfl (by omega)) ?_
      rintro _ ⟨-, r24, o24, y24, rfl, hy24, hr24, hd24⟩
      refine ⟨_, rfl, ?_⟩
      refine WD2.op0 rfl rfl (Ob.fieldAddr (k := 0) rfl rfl rfl rfl rfl rfl) rfl ?_
      refine WD2.op1 rfl rfl (Ob.load rfl rfl (hd24.ldf hs.fr List.not_mem_nil (k := 0) rfl rfl)) rfl ?_
      refine WD.run 1 rfl ?_
      refine WD2.both rfl rfl rfl (fun h28 => ?_) (fun h28 => ?_)
      · refine ⟨_, rfl, ?_⟩
        replace h28 := bne_iff_ne.1 h28
        refine WD.run 12 rfl ?_
        refine WD.nil ⟨reads_ok ⟨⟨.inr (opR_load rfl (hd24.ldf hs.fr List.not_mem_nil (k := 0) rfl rfl)), trivial⟩, ⟨.inr (opR_load rfl (hd19.ldf hs.fr List.not_mem_nil (k := 0) rfl rfl)), trivial⟩, trivial⟩, ?_⟩
        show WC _ _ _ _ _ _
        refine WC.cond rfl (fun _ => ?_) (fun hc => ?_)
        rotate_left
        · first | exact absurd hc (by decide) | (exfalso; simp_all; done)
        refine WC.seq ?_
        refine WC.region ?_
        refine WO.run 1 rfl ?_
        refine WO.nil ?_
        show WC _ _ _ _ _ _
        refine WC.ret ?_
        refine ⟨_, (res_tmp rfl res_nil), ?_⟩
        have hm1 : fa.length = n := hla.symm
        first
          | (refine ⟨?_, hs0⟩
             rw [decide_eq_false (fun e => c10 (by rw [hla, hlb, e]))]
             rfl)
          | (refine ⟨?_, hs⟩
             rw [decide_eq_false (getElem_ne hy19 hy24 (fun e => h28 (by rw [e])))]
             rfl)
          | (refine ⟨?_, hs⟩
             rw [decide_eq_false (getElem_ne hy31 hy36 (fun e => c40 (by rw [e])))]
             rfl)
          | (refine ⟨?_, hs⟩
             rw [decide_eq_true (take_eq_of (i := i) (by omega) (by omega) ht)]
             rfl)
      · refine ⟨_, rfl, ?_⟩
        replace h28 := eq_of_bne_false h28
        refine WD.run 2 rfl ?_
        refine WD.ex0 rfl rfl (Ob.indexN hfa rfl rfl rfl rfl rfl (by omega)) ?_
        rintro _ ⟨-, r31, o31, y31, rfl, hy31, hr31, hd31⟩
        refine ⟨_, rfl, ?_⟩
        refine WD2.op0 rfl rfl (Ob.fieldAddr (k := 1) rfl rfl rfl rfl rfl rfl) rfl ?_
        refine WD2.op1 rfl rfl (Ob.load rfl rfl (hd31.ldf hs.fr List.not_mem_nil (k := 1) rfl rfl)) rfl ?_
        refine WD.run 2 rfl ?_
        refine WD.ex0 rfl rfl (Ob.indexN hfb rfl rfl rfl rfl rfl (by omega)) ?_
        rintro _ ⟨-, r36, o36, y36, rfl, hy36, hr36, hd36⟩
        refine ⟨_, rfl, ?_⟩
        refine WD2.op0 rfl rfl (Ob.fieldAddr (k := 1) rfl rfl rfl rfl rfl rfl) rfl ?_
        refine WD2.op1 rfl rfl (Ob.load rfl rfl (hd36.ldf hs.fr List.not_mem_nil (k := 1) rfl rfl)) rfl ?_
        refine WD.run 2 rfl ?_
        refine WD.nil ⟨reads_ok ⟨⟨.inr (opR_load rfl (hd36.ldf hs.fr List.not_mem_nil (k := 1) rfl rfl)), trivial⟩, ⟨.inr (opR_load rfl (hd31.ldf hs.fr List.not_mem_nil (k := 1) rfl rfl)), trivial⟩, ⟨.inr (opR_load rfl (hd24.ldf hs.fr List.not_mem_nil (k := 0) rfl rfl)), trivial⟩, ⟨.inr (opR_load rfl (hd19.ldf hs.fr List.not_mem_nil (k := 0) rfl rfl)), trivial⟩, trivial⟩, ?_⟩
        show WC _ _ _ _ _ _
        refine WC.cond rfl (fun c40 => ?_) (fun c40 => ?_)
        · replace c40 := bne_iff_ne.1 c40
          refine WC.seq ?_
          refine WC.region ?_
          refine WO.run 1 rfl ?_
          refine WO.nil ?_
          show WC _ _ _ _ _ _
          refine WC.ret ?_
          refine ⟨_, (res_tmp rfl res_nil), ?_⟩
          have hm1 : fa.length = n := hla.symm
          first
            | (refine ⟨?_, hs0⟩
               rw [decide_eq_false (fun e => c10 (by rw [hla, hlb, e]))]
               rfl)
            | (refine ⟨?_, hs⟩
               rw [decide_eq_false (getElem_ne hy19 hy24 (fun e => h28 (by rw [e])))]
               rfl)
            | (refine ⟨?_, hs⟩
               rw [decide_eq_false (getElem_ne hy31 hy36 (fun e => c40 (by rw [e])))]
               rfl)
            | (refine ⟨?_, hs⟩
               rw [decide_eq_true (take_eq_of (i := i) (by omega) (by omega) ht)]
               rfl)
        · replace c40 := eq_of_bne_false c40
          refine WC.skip ?_
          show WC _ _ _ _ _ _
          refine WC.region ?_
          refine WO.run 1 rfl ?_
          refine WO2.val (v' := .int .i64 ((i + 1 : Nat) : Int)) rfl rfl (iv_wrap (by omega) (by omega)) rfl ?_
          refine WO.run 1 rfl ?_
          refine WO.nil ?_
          have e31 : y31 = y19 := Option.some.inj (hy31.symm.trans hy19)
          have e36 : y36 = y24 := Option.some.inj (hy36.symm.trans hy24)
          have hee : y19 = y24 := by
            rw [e31, e36] at c40
            rcases y19 with ⟨a, b⟩
            rcases y24 with ⟨a', b'⟩
            simp only at h28 c40
            rw [h28, c40]
          exact ⟨i + 1, rfl, ⟨hs, by omega, take_step hy19 (hee ▸ hy24) ht⟩, by omega⟩
    · replace c14 := of_decide_eq_false c14
      refine WC.exit ?_
      show WC _ _ _ _ _ _
      refine WC.seq ?_
      refine WC.region ?_
      refine WO.run 1 rfl ?_
      refine WO.nil ?_
      show WC _ _ _ _ _ _
      refine WC.ret ?_
      refine ⟨_, (res_tmp rfl res_nil), ?_⟩
      have hm1 : fa.length = n := hla.symm
      first
        | (refine ⟨?_, hs0⟩
           rw [decide_eq_false (fun e => c10 (by rw [hla, hlb, e]))]
           rfl)
        | (refine ⟨?_, hs⟩
           rw [decide_eq_false (getElem_ne hy19 hy24 (fun e => h28 (by rw [e])))]
           rfl)
        | (refine ⟨?_, hs⟩
           rw [decide_eq_false (getElem_ne hy31 hy36 (fun e => c40 (by rw [e])))]
           rfl)
        | (refine ⟨?_, hs⟩
           rw [decide_eq_true (take_eq_of (i := i) (by omega) (by omega) ht)]
           rfl)
theorem askL_no {fs : List Fld} {ss : List Stg} {c : Int} (h : askL fs ss = .no c) : c ≠ 0 := by
  unfold askL at h
  split at h
  · cases h; decide
  · split at h
    · cases h; decide
    · split at h
      · cases h; decide
      · split at h
        · cases h; decide
        · split at h
          · cases h; decide
          · cases h
theorem askL_ok {fs : List Fld} {ss : List Stg} {b : B} (h : askL fs ss = .ok b) : 4 ≤ b.length ∧ b.length ≤ 16384 := by
  unfold askL at h
  split at h
  · cases h
  · split at h
    · cases h
    · split at h
      · cases h
      · split at h
        · cases h
        · split at h
          · cases h
          · cases h
            refine ⟨?_, by omega⟩
            simp only [askT, List.length_append, crlf, List.length_cons, List.length_nil]
            omega
/-- The law, given the plain law. -/
theorem askBack_wf (fs : List Fld) (ss : List Stg) (more : B) (p q r : P3) (n k n2 k2 n3 k3 : Nat) (at_ : Int) (σ : LZ.H) (hfs : RdL σ encF 3 p n k fs) (hss : RdL σ encT 2 q n2 k2 ss) (hmo : RdB σ r n3 k3 more)
    (hsm : smallF 1048576 fs) (hn : n ≤ 1048576) (hn2 : n2 ≤ 1048576) (hn3 : n3 ≤ 1099511627776) (hlen : ∀ i m, headsL fs = some (i, m) → (askT fs ss m).length ≤ 1099511627776)
    (H1 : ∀ b, askL fs ss = .ok b → more.length ≤ 1000 → readL (b ++ more) = .ok fs ss b.length) (H2 : ∀ b m, askL fs ss = .ok b → m < b.length → readL (b.take m) = .no 3) :
    WF Tryd.prog ext 3 [.slice p n k, .slice q n2 k2, .slice r n3 k3, .int .i64 at_] σ (fun v σ' => v = .bool true) := by
  refine WF.body rfl Tryd.func3 rfl rfl ?_
  have hs0 := Hs.nil σ
  have hl1 := hfs.len
  have hl2 := hss.len
  have hl3 := hmo.len
  refine WC.seq ?_
  refine WC.region ?_
  refine WO.run 1 rfl ?_
  refine WO.nil ?_
  show WC _ _ _ _ _ _
  refine WC.seq ?_
  refine WC.region ?_
  refine WO2.call rfl rfl rfl rfl rfl ?_
  refine WF.extern (g := extBegun) rfl rfl ?_
  refine ⟨_, rfl, ?_⟩
  refine WO.run 1 rfl ?_
  refine WO.nil ?_
  show WC _ _ _ _ _ _
  refine WC.seq ?_
  refine WC.region ?_
  refine WO.run 2 rfl ?_
  refine WO2.call rfl rfl rfl rfl rfl ?_
  refine WF.mono (ask_wf fs ss _ _ _ _ _ _ _ (hfs.fr hs0.fr (by simp)) hsm hn (hss.fr hs0.fr (by simp)) hn2 hlen) ?_
  intro v τa hq
  rcases ha : askL fs ss with c | b
  · rw [ha] at hq
    obtain ⟨rfl, hxa⟩ := hq
    have hc0 := askL_no ha
    have hs1 := hs0.add' hxa rfl
    refine ⟨_, rfl, ?_⟩
    refine WO.run 5 rfl ?_
    refine WO.nil ?_
    show WC _ _ _ _ _ _
    refine WC.seq ?_
    refine WC.seq ?_
    refine WC.region ?_
    refine WO.run 2 rfl ?_
    refine WO2.both rfl rfl (fun h28 => ?_) (fun h28 => ?_)
    · refine ⟨_, rfl, ?_⟩
      replace h28 := bne_iff_ne.1 h28
      refine WO.run 4 rfl ?_
      refine WO.nil ?_
      show WC _ _ _ _ _ _
      refine WC.cond rfl (fun _ => ?_) (fun hc => ?_)
      rotate_left
      · first | exact absurd hc (by decide) | (exfalso; simp_all; done)
      refine WC.seq ?_
      refine WC.region ?_
      refine WO.run 2 rfl ?_
      refine WO.nil ?_
      show WC _ _ _ _ _ _
      refine WC.ret ?_
      refine ⟨_, (res_tmp rfl res_nil), ?_⟩
      exact rfl
    · refine ⟨_, rfl, ?_⟩
      replace h28 := eq_of_bne_false h28
      exact absurd h28 hc0
  · rw [ha] at hq
    obtain ⟨pb, kb, rfl, hxa⟩ := hq
    have hbl := askL_ok ha
    have hs2 := hs0.add' hxa rfl
    refine ⟨_, rfl, ?_⟩
    refine WO.run 5 rfl ?_
    refine WO.nil ?_
    show WC _ _ _ _ _ _
    refine WC.seq ?_
    refine WC.seq ?_
    refine WC.region ?_
    refine WO.run 7 rfl ?_
    refine WO.nil ?_
    show WC _ _ _ _ _ _
    refine WC.cond rfl (fun c32 => ?_) (fun c32 => ?_)
    · replace c32 := of_decide_eq_true c32
      refine WC.seq ?_
      refine WC.region ?_
      refine WO.run 2 rfl ?_
      refine WO.nil ?_
      show WC _ _ _ _ _ _
      refine WC.ret ?_
      refine ⟨_, (res_tmp rfl res_nil), ?_⟩
      exact rfl
    · replace c32 := of_decide_eq_false c32
      refine WC.skip ?_
      show WC _ _ _ _ _ _
      refine WC.seq ?_
      refine WC.region ?_
      refine WO.run 1 rfl ?_
      have hs3 := hs2.nilB 5 rfl
      refine WO.ex rfl (Ob.appB (e := 5) (b := 1) (cs := b) hs3 1 rfl rfl rfl rfl rfl rfl (Rd.src (hs3.rd (i := 0) rfl)) (by first | rfl | exact RdB.len (hs3.rd (i := 0) rfl)) (by simp only [List.length_append, List.length_cons, List.length_nil]; omega) fun _ _ => rfl) ?_
      rintro _ τ4 ⟨p35, k35, rfl, hs4⟩
      refine ⟨_, rfl, ?_⟩
      clear hs3
      refine WO.run 1 rfl ?_
      refine WO.nil ?_
      show WC _ _ _ _ _ _
      refine WC.seq ?_
      refine WC.region ?_
      refine WO.run 2 rfl ?_
      refine WO.ex rfl (Ob.appB (e := 5) (b := 1) (cs := more) hs4 1 rfl rfl rfl rfl rfl rfl (Rd.src (Rd.fr hmo hs4.fr (by simp))) (by first | rfl | exact RdB.len (Rd.fr hmo hs4.fr (by simp))) (by simp only [List.length_append, List.length_cons, List.length_nil]; omega) fun _ _ => rfl) ?_
      rintro _ τ5 ⟨p38, k38, rfl, hs5⟩
      refine ⟨_, rfl, ?_⟩
      clear hs4
      refine WO.run 1 rfl ?_
      refine WO.nil ?_
      show WC _ _ _ _ _ _
      refine WC.seq ?_
      refine WC.region ?_
      refine WO.run 1 rfl ?_
      refine WO2.call rfl rfl rfl rfl rfl ?_
      refine WF.mono (readU_wf (b ++ more) _ _ _ _ (hs5.rdB (i := 1) rfl) (by simp only [List.length_append, List.length_nil]; omega)) ?_
      rw [H1 b ha (by omega)]
      rintro _ τr ⟨p1, k1, p2, k2', rfl, hxr⟩
      have hs6 := hs5.add' hxr rfl
      refine ⟨_, rfl, ?_⟩
      refine WO.run 3 rfl ?_
      refine WO.ex rfl (Ob.alloc hs6 rfl rfl fun _ => rfl) ?_
      rintro _ τ7 ⟨r13, rfl, hs7⟩
      refine ⟨_, rfl, ?_⟩
      clear hs6
      refine WO.ex rfl (Ob.store hs7 4 rfl rfl rfl rfl rfl rfl rfl rfl) ?_
      rintro _ τ8 ⟨rfl, hs8⟩
      refine ⟨_, rfl, ?_⟩
      clear hs7
      refine WO.run 1 rfl ?_
      refine WO.nil ?_
      show WC _ _ _ _ _ _
      refine WC.seq ?_
      refine WC.region ?_
      refine WO2.op rfl (Ob.fieldAddr (k := 0) rfl rfl rfl rfl rfl rfl) rfl ?_
      refine WO2.op rfl (Ob.load rfl rfl (hs8.ld 4 rfl rfl)) rfl ?_
      refine WO.run 1 rfl ?_
      refine WO2.call rfl rfl rfl rfl rfl ?_
      refine WF.mono (eqFields_wf fs fs _ _ _ _ _ _ _ (hs8.rdL (i := 3) rfl (by intro _; rfl) (by decide)) (hfs.fr hs8.fr (by simp)) (by omega) (by omega)) ?_
      rintro _ τe ⟨rfl, hxe⟩
      rw [decide_eq_true rfl]
      have hs9 := hs8.add' hxe rfl
      refine ⟨_, rfl, ?_⟩
      refine WO.run 1 rfl ?_
      refine WO.nil ?_
      show WC _ _ _ _ _ _
      refine WC.seq ?_
      refine WC.region ?_
      refine WO2.op rfl (Ob.fieldAddr (k := 1) rfl rfl rfl rfl rfl rfl) rfl ?_
      refine WO2.op rfl (Ob.load rfl rfl (hs9.ld 4 rfl rfl)) rfl ?_
      refine WO.run 1 rfl ?_
      refine WO2.call rfl rfl rfl rfl rfl ?_
      refine WF.mono (settings_wf ss ss _ _ _ _ _ _ _ (hs9.rdL (i := 2) rfl (by intro _; rfl) (by decide)) (hss.fr hs9.fr (by simp)) (by omega) (by omega)) ?_
      rintro _ τs ⟨rfl, hxs⟩
      rw [decide_eq_true rfl]
      have hs10 := hs9.add' hxs rfl
      refine ⟨_, rfl, ?_⟩
      refine WO.run 1 rfl ?_
      refine WO.nil ?_
      show WC _ _ _ _ _ _
      refine WC.seq ?_
      refine WC.seq ?_
      refine WC.region ?_
      refine WO.run 11 rfl ?_
      refine WO2.op rfl (Ob.fieldAddr (k := 2) rfl rfl rfl rfl rfl rfl) rfl ?_
      refine WO2.op rfl (Ob.load rfl rfl (hs10.ld 4 rfl rfl)) rfl ?_
      refine WO.run 4 rfl ?_
      refine WO.nil ?_
      show WC _ _ _ _ _ _
      refine WC.cond rfl (fun c68 => ?_) (fun c68 => ?_)
      · replace c68 := bne_iff_ne.1 c68
        exact absurd rfl c68
      · replace c68 := eq_of_bne_false c68
        refine WC.skip ?_
        show WC _ _ _ _ _ _
        refine WC.seq ?_
        refine WC.seq ?_
        refine WC.region ?_
        refine WO.run 2 rfl ?_
        refine WO2.both rfl rfl (fun h71 => ?_) (fun h71 => ?_)
        · refine ⟨_, rfl, ?_⟩
          replace h71 := of_decide_eq_true h71
          obtain ⟨m, hm⟩ : ∃ m, m = b.length - 1 := ⟨_, rfl⟩
          have hmb : m < b.length := by omega
          refine WO.run 5 rfl ?_
          refine WO.nil ?_
          show WC _ _ _ _ _ _
          refine WC.cond rfl (fun _ => ?_) (fun hc => ?_)
          rotate_left
          · first | exact absurd hc (by decide) | (exfalso; simp_all; done)
          refine WC.region ?_
          refine WO.run 2 rfl ?_
          refine WO2.val (v' := .int .i64 (m : Int)) rfl rfl (iv_wrap (by omega) (by omega)) rfl ?_
          refine WO.run 1 rfl ?_
          refine WO.nil ?_
          show WC _ _ _ _ _ _
          refine WC.seq ?_
          refine WC.region ?_
          refine WO.run 2 rfl ?_
          refine WO2.op rfl (Ob.slHi (hs10.rd (i := 0) rfl) rfl rfl rfl rfl rfl (show m ≤ b.length by omega)) rfl ?_
          refine WO2.call rfl rfl rfl rfl rfl ?_
          refine WF.mono (readU_wf (b.take m) _ _ _ _ ((hs10.rdB (i := 0) rfl).sub (Nat.zero_le m) (by omega)) (by omega)) ?_
          rw [H2 b m ha hmb]
          rintro _ τz ⟨rfl, hxz⟩
          have hs11 := hs10.add' hxz rfl
          refine ⟨_, rfl, ?_⟩
          refine WO.run 3 rfl ?_
          refine WO.ex rfl (Ob.alloc hs11 rfl rfl fun _ => rfl) ?_
          rintro _ τ12 ⟨r17, rfl, hs12⟩
          refine ⟨_, rfl, ?_⟩
          clear hs11
          refine WO.ex rfl (Ob.store hs12 5 rfl rfl rfl rfl rfl rfl rfl rfl) ?_
          rintro _ τ13 ⟨rfl, hs13⟩
          refine ⟨_, rfl, ?_⟩
          clear hs12
          refine WO.run 1 rfl ?_
          refine WO.nil ?_
          show WC _ _ _ _ _ _
          refine WC.seq ?_
          refine WC.region ?_
          refine WO.run 6 rfl ?_
          refine WO.nil ?_
          show WC _ _ _ _ _ _
          refine WC.ret ?_
          refine ⟨_, (res_tmp rfl res_nil), ?_⟩
          exact rfl
        · refine ⟨_, rfl, ?_⟩
          replace h71 := of_decide_eq_false h71
          refine WO.run 5 rfl ?_
          refine WO.nil ?_
          show WC _ _ _ _ _ _
          refine WC.cond rfl (fun c76 => ?_) (fun c76 => ?_)
          · replace c76 := of_decide_eq_true c76
            obtain ⟨m, hm⟩ : ∃ m, m = b.length - 1 := ⟨_, rfl⟩
            have hmb : m < b.length := by omega
            refine WC.region ?_
            refine WO.run 2 rfl ?_
            refine WO2.val (v' := .int .i64 (m : Int)) rfl rfl (iv_wrap (by omega) (by omega)) rfl ?_
            refine WO.run 1 rfl ?_
            refine WO.nil ?_
            show WC _ _ _ _ _ _
            refine WC.seq ?_
            refine WC.region ?_
            refine WO.run 2 rfl ?_
            refine WO2.op rfl (Ob.slHi (hs10.rd (i := 0) rfl) rfl rfl rfl rfl rfl (show m ≤ b.length by omega)) rfl ?_
            refine WO2.call rfl rfl rfl rfl rfl ?_
            refine WF.mono (readU_wf (b.take m) _ _ _ _ ((hs10.rdB (i := 0) rfl).sub (Nat.zero_le m) (by omega)) (by omega)) ?_
            rw [H2 b m ha hmb]
            rintro _ τz ⟨rfl, hxz⟩
            have hs14 := hs10.add' hxz rfl
            refine ⟨_, rfl, ?_⟩
            refine WO.run 3 rfl ?_
            refine WO.ex rfl (Ob.alloc hs14 rfl rfl fun _ => rfl) ?_
            rintro _ τ15 ⟨r17, rfl, hs15⟩
            refine ⟨_, rfl, ?_⟩
            clear hs14
            refine WO.ex rfl (Ob.store hs15 5 rfl rfl rfl rfl rfl rfl rfl rfl) ?_
            rintro _ τ16 ⟨rfl, hs16⟩
            refine ⟨_, rfl, ?_⟩
            clear hs15
            refine WO.run 1 rfl ?_
            refine WO.nil ?_
            show WC _ _ _ _ _ _
            refine WC.seq ?_
            refine WC.region ?_
            refine WO.run 6 rfl ?_
            refine WO.nil ?_
            show WC _ _ _ _ _ _
            refine WC.ret ?_
            refine ⟨_, (res_tmp rfl res_nil), ?_⟩
            exact rfl
          · replace c76 := of_decide_eq_false c76
            obtain ⟨m, rfl⟩ : ∃ m : Nat, at_ = m := ⟨at_.toNat, by omega⟩
            have hmb : m < b.length := by omega
            refine WC.skip ?_
            show WC _ _ _ _ _ _
            refine WC.seq ?_
            refine WC.region ?_
            refine WO.run 2 rfl ?_
            refine WO2.op rfl (Ob.slHi (hs10.rd (i := 0) rfl) rfl rfl rfl rfl rfl (show m ≤ b.length by omega)) rfl ?_
            refine WO2.call rfl rfl rfl rfl rfl ?_
            refine WF.mono (readU_wf (b.take m) _ _ _ _ ((hs10.rdB (i := 0) rfl).sub (Nat.zero_le m) (by omega)) (by omega)) ?_
            rw [H2 b m ha hmb]
            rintro _ τz ⟨rfl, hxz⟩
            have hs17 := hs10.add' hxz rfl
            refine ⟨_, rfl, ?_⟩
            refine WO.run 3 rfl ?_
            refine WO.ex rfl (Ob.alloc hs17 rfl rfl fun _ => rfl) ?_
            rintro _ τ18 ⟨r17, rfl, hs18⟩
            refine ⟨_, rfl, ?_⟩
            clear hs17
            refine WO.ex rfl (Ob.store hs18 5 rfl rfl rfl rfl rfl rfl rfl rfl) ?_
            rintro _ τ19 ⟨rfl, hs19⟩
            refine ⟨_, rfl, ?_⟩
            clear hs18
            refine WO.run 1 rfl ?_
            refine WO.nil ?_
            show WC _ _ _ _ _ _
            refine WC.seq ?_
            refine WC.region ?_
            refine WO.run 6 rfl ?_
            refine WO.nil ?_
            show WC _ _ _ _ _ _
            refine WC.ret ?_
            refine ⟨_, (res_tmp rfl res_nil), ?_⟩
            exact rfl
end Go.Proofs.YtamplhegepgaeaaDoor
end

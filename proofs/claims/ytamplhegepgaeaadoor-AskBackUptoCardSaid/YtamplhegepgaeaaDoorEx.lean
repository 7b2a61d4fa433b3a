/- The told functions' contracts hold. -/
import Derived.Test.YtamplhegepgaeaaDoorLb
import Derived.Lib.IndexAny
import Derived.Test.YtamplhegepgaeaaDoorWa
import Derived.Test.YtamplhegepgaeaaDoorSh
section
/- The library's ContainsAny at 0, 10, 13 and texts of any bytes: short texts, walked. -/
open Go Go.LZ
namespace Go.Proofs.YtamplhegepgaeaaDoor
set_option maxRecDepth 10000
set_option linter.unusedSimpArgs false
set_option linter.unusedVariables false
def ext1 (f : Nat) : Option (List LV → LZ.H → Option (LV × LZ.H)) :=
  match f with
  | 58 => some extIndexByte
  | _ => none
theorem byte_back1 (b : UInt8) : ((b.toNat : Int).toNat).toUInt8 = b := by simp
theorem indexByte1_wf (s : List UInt8) (c : UInt8) (σ : LZ.H) : WF Tryd.prog ext1 58 [.str s, .int .u8 (c.toNat : Int)] σ (fun v σ' => v = .int .i64 (Lib.indexByte s c) ∧ σ' = σ) :=
  WF.extern (g := extIndexByte) rfl rfl ⟨by rw [byte_back1], rfl⟩
def ctls : List UInt8 := [0, 10, 13]
def runeB (r : Nat) : List UInt8 := (Utf8.encode (r : Int)).data.toList
theorem rune_high {r : Nat} (h : 128 ≤ r) : 2 ≤ (runeB r).length ∧ (runeB r).length ≤ 4 ∧ 128 ≤ ((runeB r).getD ((runeB r).length - 1) 0).toNat := by
  unfold runeB Utf8.encode
  have key : ∀ c : Nat, 128 ≤ c → c < 1114112 → (let b (n : Nat) : UInt8 := UInt8.ofNat n
      let e : ByteArray := if c < 0x80 then ⟨#[b c]⟩ else if c < 0x800 then ⟨#[b (0xC0 + c / 64), b (0x80 + c % 64)]⟩ else if c < 0x10000 then ⟨#[b (0xE0 + c / 4096), b (0x80 + c / 64 % 64), b (0x80 + c % 64)]⟩ else ⟨#[b (0xF0 + c / 262144), b (0x80 + c / 4096 % 64), b (0x80 + c / 64 % 64), b (0x80 + c % 64)]⟩
      2 ≤ e.data.toList.length ∧ e.data.toList.length ≤ 4 ∧ 128 ≤ (e.data.toList.getD (e.data.toList.length - 1) 0).toNat) := by
    intro c h1 h2
    simp only
    rw [if_neg (by omega)]
    split
    · refine ⟨show 2 ≤ 2 by decide, show 2 ≤ 4 by decide, ?_⟩
      show 128 ≤ (UInt8.ofNat (0x80 + c % 64)).toNat
      rw [UInt8.toNat_ofNat']; omega
    · split
      · refine ⟨show 2 ≤ 3 by decide, show 3 ≤ 4 by decide, ?_⟩
        show 128 ≤ (UInt8.ofNat (0x80 + c % 64)).toNat
        rw [UInt8.toNat_ofNat']; omega
      · refine ⟨show 2 ≤ 4 by decide, show 4 ≤ 4 by decide, ?_⟩
        show 128 ≤ (UInt8.ofNat (0x80 + c % 64)).toNat
        rw [UInt8.toNat_ofNat']; omega
  split
  · rename_i hv
    refine key _ (by simpa using h) ?_
    simp only [Utf8.valid] at hv
    simp at hv
    omega
  · exact key _ (by decide) (by decide)
theorem indexByte_none_or : ∀ (l : List UInt8) (c : UInt8), Lib.indexByte l c = -1 ∨ c ∈ l := by
  intro l c
  have hge := Lib.indexByte_ge l c
  by_cases h : Lib.indexByte l c = -1
  · exact .inl h
  · right
    obtain ⟨o, ho⟩ : ∃ o : Nat, Lib.indexByte l c = o := ⟨(Lib.indexByte l c).toNat, by omega⟩
    exact List.mem_of_getElem? (Lib.indexByte_some ho).1
theorem validRune_wf (r : Nat) (σ : LZ.H) : WF Tryd.prog ext1 140 [.int .i32 (r : Int)] σ (fun v σ' => ∃ b, v = .bool b ∧ σ' = σ) := by
  refine WF.body rfl Tryd.func140 rfl rfl ?_
  have hs0 := Hs.nil σ
  refine WC.seq ?_
  refine WC.region ?_
  refine WO.run 1 rfl ?_
  refine WO.nil ?_
  show WC _ _ _ _ _ _
  refine WC.seq ?_
  refine WC.block ?_
  refine WC.seq ?_
  refine WC.region ?_
  refine WO.run 2 rfl ?_
  refine WO2.both rfl rfl (fun h6 => ?_) (fun h6 => ?_)
  · refine ⟨_, rfl, ?_⟩
    replace h6 := of_decide_eq_true h6
    refine WO.run 4 rfl ?_
    refine WO.nil ?_
    show WC _ _ _ _ _ _
    refine WC.cond rfl (fun c3 => ?_) (fun c3 => ?_)
    · replace c3 := of_decide_eq_true c3
      refine WC.seq ?_
      refine WC.region ?_
      refine WO.run 1 rfl ?_
      refine WO.nil ?_
      show WC _ _ _ _ _ _
      refine WC.ret ?_
      refine ⟨_, (res_tmp rfl res_nil), ?_⟩
      exact ⟨_, rfl, rfl⟩
    · replace c3 := of_decide_eq_false c3
      refine WC.seq ?_
      refine WC.region ?_
      refine WO.run 2 rfl ?_
      refine WO2.both rfl rfl (fun h13 => ?_) (fun h13 => ?_)
      · refine ⟨_, rfl, ?_⟩
        replace h13 := of_decide_eq_true h13
        refine WO.run 4 rfl ?_
        refine WO.nil ?_
        show WC _ _ _ _ _ _
        refine WC.cond rfl (fun c10 => ?_) (fun c10 => ?_)
        · replace c10 := of_decide_eq_true c10
          refine WC.seq ?_
          refine WC.region ?_
          refine WO.run 1 rfl ?_
          refine WO.nil ?_
          show WC _ _ _ _ _ _
          refine WC.ret ?_
          refine ⟨_, (res_tmp rfl res_nil), ?_⟩
          exact ⟨_, rfl, rfl⟩
        · replace c10 := of_decide_eq_false c10
          refine WC.skip ?_
          show WC _ _ _ _ _ _
          refine WC.seq ?_
          refine WC.region ?_
          refine WO.run 1 rfl ?_
          refine WO.nil ?_
          show WC _ _ _ _ _ _
          refine WC.ret ?_
          refine ⟨_, (res_tmp rfl res_nil), ?_⟩
          exact ⟨_, rfl, rfl⟩
      · refine ⟨_, rfl, ?_⟩
        replace h13 := of_decide_eq_false h13
        refine WO.run 4 rfl ?_
        refine WO.nil ?_
        show WC _ _ _ _ _ _
        refine WC.cond rfl (fun hc => ?_) (fun _ => ?_)
        · first | exact absurd hc (by decide) | (exfalso; simp_all; done)
        refine WC.skip ?_
        show WC _ _ _ _ _ _
        refine WC.seq ?_
        refine WC.region ?_
        refine WO.run 1 rfl ?_
        refine WO.nil ?_
        show WC _ _ _ _ _ _
        refine WC.ret ?_
        refine ⟨_, (res_tmp rfl res_nil), ?_⟩
        exact ⟨_, rfl, rfl⟩
  · refine ⟨_, rfl, ?_⟩
    replace h6 := of_decide_eq_false h6
    refine WO.run 4 rfl ?_
    refine WO.nil ?_
    show WC _ _ _ _ _ _
    refine WC.cond rfl (fun hc => ?_) (fun _ => ?_)
    · first | exact absurd hc (by decide) | (exfalso; simp_all; done)
    refine WC.seq ?_
    refine WC.region ?_
    refine WO.run 2 rfl ?_
    refine WO2.both rfl rfl (fun h13 => ?_) (fun h13 => ?_)
    · refine ⟨_, rfl, ?_⟩
      replace h13 := of_decide_eq_true h13
      refine WO.run 4 rfl ?_
      refine WO.nil ?_
      show WC _ _ _ _ _ _
      refine WC.cond rfl (fun c10 => ?_) (fun c10 => ?_)
      · replace c10 := of_decide_eq_true c10
        refine WC.seq ?_
        refine WC.region ?_
        refine WO.run 1 rfl ?_
        refine WO.nil ?_
        show WC _ _ _ _ _ _
        refine WC.ret ?_
        refine ⟨_, (res_tmp rfl res_nil), ?_⟩
        exact ⟨_, rfl, rfl⟩
      · replace c10 := of_decide_eq_false c10
        refine WC.skip ?_
        show WC _ _ _ _ _ _
        refine WC.seq ?_
        refine WC.region ?_
        refine WO.run 1 rfl ?_
        refine WO.nil ?_
        show WC _ _ _ _ _ _
        refine WC.ret ?_
        refine ⟨_, (res_tmp rfl res_nil), ?_⟩
        exact ⟨_, rfl, rfl⟩
    · refine ⟨_, rfl, ?_⟩
      replace h13 := of_decide_eq_false h13
      refine WO.run 4 rfl ?_
      refine WO.nil ?_
      show WC _ _ _ _ _ _
      refine WC.cond rfl (fun hc => ?_) (fun _ => ?_)
      · first | exact absurd hc (by decide) | (exfalso; simp_all; done)
      refine WC.skip ?_
      show WC _ _ _ _ _ _
      refine WC.seq ?_
      refine WC.region ?_
      refine WO.run 1 rfl ?_
      refine WO.nil ?_
      show WC _ _ _ _ _ _
      refine WC.ret ?_
      refine ⟨_, (res_tmp rfl res_nil), ?_⟩
      exact ⟨_, rfl, rfl⟩
theorem useSet_wf (n : Nat) (hn : n ≤ 8) (σ : LZ.H) : WF Tryd.prog ext1 130 [.int .i64 (n : Int)] σ (fun v σ' => v = .bool false ∧ σ' = σ) := by
  refine WF.body rfl Tryd.func130 rfl rfl ?_
  have hs0 := Hs.nil σ
  refine WC.seq ?_
  refine WC.region ?_
  refine WO.run 1 rfl ?_
  refine WO.nil ?_
  show WC _ _ _ _ _ _
  refine WC.seq ?_
  refine WC.region ?_
  refine WO.run 3 rfl ?_
  refine WO.nil ?_
  show WC _ _ _ _ _ _
  refine WC.ret ?_
  refine ⟨_, (res_tmp rfl res_nil), ?_⟩
  refine ⟨?_, rfl⟩
  show LV.bool _ = _
  rw [decide_eq_false (by omega)]
theorem indexRune_low (b : UInt8) (hb : b.toNat < 128) (σ : LZ.H) : WF Tryd.prog ext1 129 [.str ctls, .int .i32 (b.toNat : Int)] σ (fun v σ' => v = .int .i64 (Lib.indexByte ctls b) ∧ σ' = σ) := by
  refine WF.body rfl Tryd.func129 rfl rfl ?_
  have hs0 := Hs.nil σ
  refine WC.seq ?_
  refine WC.region ?_
  refine WO.run 1 rfl ?_
  refine WO.nil ?_
  show WC _ _ _ _ _ _
  refine WC.block ?_
  refine WC.seq ?_
  refine WC.region ?_
  refine WO.run 2 rfl ?_
  refine WO2.both rfl rfl (fun h163 => ?_) (fun h163 => ?_)
  · refine ⟨_, rfl, ?_⟩
    replace h163 := of_decide_eq_true h163
    refine WO.run 4 rfl ?_
    refine WO.nil ?_
    show WC _ _ _ _ _ _
    refine WC.cond rfl (fun c160 => ?_) (fun c160 => ?_)
    · replace c160 := of_decide_eq_true c160
      refine WC.seq ?_
      refine WC.region ?_
      refine WO.run 2 rfl ?_
      refine WO2.val (v' := .int .u8 (b.toNat : Int)) rfl rfl (by rw [u8_wrap (n := b.toNat) rfl]; simp) rfl ?_
      refine WO2.call rfl rfl rfl rfl rfl ?_
      refine WF.mono (indexByte1_wf ctls b _) ?_
      rintro _ _ ⟨rfl, rfl⟩
      refine ⟨_, rfl, ?_⟩
      refine WO.run 1 rfl ?_
      refine WO.nil ?_
      show WC _ _ _ _ _ _
      refine WC.ret ?_
      refine ⟨_, (res_tmp rfl res_nil), ?_⟩
      exact ⟨rfl, rfl⟩
    · replace c160 := of_decide_eq_false c160
      omega
  · refine ⟨_, rfl, ?_⟩
    replace h163 := of_decide_eq_false h163
    omega
theorem decode_ctls : ∀ p : Fin 3, (Utf8.decode ⟨ctls.toArray⟩ p.val).1 ≠ 65533 ∧ (Utf8.decode ⟨ctls.toArray⟩ p.val).2 = 1 := by decide
theorem ctls_le (n : Nat) : (ctls.getD n 0).toNat ≤ 13 := by
  match n with
  | 0 => decide
  | 1 => decide
  | 2 => decide
  | n + 3 => exact Nat.zero_le _
theorem not_ctl {c : UInt8} (h : 128 ≤ c.toNat) (n : Nat) : Lib.indexByte (ctls.drop n) c = -1 := by
  rcases indexByte_none_or (ctls.drop n) c with e | hm
  · exact e
  · have : c ∈ ctls := List.mem_of_mem_drop hm
    simp only [ctls, List.mem_cons, List.not_mem_nil, or_false] at this
    rcases this with rfl | rfl | rfl <;> exact absurd h (by decide)
theorem indexRune_high (r : Nat) (hr : 128 ≤ r) (σ : LZ.H) : WF Tryd.prog ext1 129 [.str ctls, .int .i32 (r : Int)] σ (fun v σ' => v = .int .i64 (-1) ∧ Hs [] σ σ' []) := by
  refine WF.body rfl Tryd.func129 rfl rfl ?_
  have hs0 := Hs.nil σ
  obtain ⟨hl2, hl4, hlast⟩ := rune_high hr
  have hc3 : ctls.length = 3 := rfl
  refine WC.seq ?_
  refine WC.region ?_
  refine WO.run 1 rfl ?_
  refine WO.nil ?_
  show WC _ _ _ _ _ _
  refine WC.block ?_
  refine WC.seq ?_
  refine WC.region ?_
  refine WO.run 2 rfl ?_
  refine WO2.both rfl rfl (fun h163 => ?_) (fun h163 => ?_)
  · refine ⟨_, rfl, ?_⟩
    replace h163 := of_decide_eq_true h163
    refine WO.run 4 rfl ?_
    refine WO.nil ?_
    show WC _ _ _ _ _ _
    refine WC.cond rfl (fun c160 => ?_) (fun c160 => ?_)
    · replace c160 := of_decide_eq_true c160
      omega
    · replace c160 := of_decide_eq_false c160
      refine WC.seq ?_
      refine WC.region ?_
      refine WO.run 3 rfl ?_
      refine WO.nil ?_
      show WC _ _ _ _ _ _
      refine WC.cond rfl (fun c171 => ?_) (fun c171 => ?_)
      · replace c171 := eq_of_beq c171
        refine WC.seq ?_
        refine WC.seq ?_
        refine WC.region ?_
        refine WO.run 1 rfl ?_
        refine WO.ex rfl (Ob.range hs0 rfl rfl rfl fun _ => rfl) ?_
        rintro _ τ1 ⟨r175, rfl, hs1⟩
        refine ⟨_, rfl, ?_⟩
        clear hs0
        refine WO.nil ?_
        show WC _ _ _ _ _ _
        refine WC.block ?_
        refine WC.lp1 (fun (pos : Nat) => []) [4, 5, 6, 176, 177, 178, 179, 180, 181, 182] (fun (pos : Nat) => fun τ => Hs [] σ τ [At.obj r175 (.iter ctls pos)]) (fun (pos : Nat) => 3 - pos) (0) (fun _ _ => rfl) rfl hs1 ?_
        rintro pos g τ hs
        refine WC.seq ?_
        refine WC.region ?_
        refine WO.ex rfl (Ob.next hs 0 rfl rfl rfl rfl) ?_
        rintro _ τ2 (⟨hn176, rfl, hs2⟩ | ⟨hn176, rfl, hs2⟩)
        · refine ⟨_, rfl, ?_⟩
          have hd := decode_ctls ⟨pos, hn176⟩
          simp only at hd
          refine WO.run 1 rfl ?_
          refine WO.nil ?_
          show WC _ _ _ _ _ _
          refine WC.seq ?_
          refine WC.cond rfl (fun _ => ?_) (fun hc => ?_)
          rotate_left
          · first | exact absurd hc (by decide) | (exfalso; simp_all; done)
          refine WC.skip ?_
          show WC _ _ _ _ _ _
          refine WC.block ?_
          refine WC.seq ?_
          refine WC.region ?_
          refine WO.run 4 rfl ?_
          refine WO.nil ?_
          show WC _ _ _ _ _ _
          refine WC.seq ?_
          refine WC.region ?_
          refine WO.run 2 rfl ?_
          refine WO.nil ?_
          show WC _ _ _ _ _ _
          refine WC.cond rfl (fun c181 => ?_) (fun c181 => ?_)
          · replace c181 := eq_of_beq c181
            exact (hd.1 (by omega)).elim
          · replace c181 := ne_of_beq_false c181
            refine WC.skip ?_
            have hs9 := hs2
            rw [hd.2] at hs9
            exact ⟨pos + 1, rfl, hs9, by omega⟩
        · refine ⟨_, rfl, ?_⟩
          refine WO.run 1 rfl ?_
          refine WO.nil ?_
          show WC _ _ _ _ _ _
          refine WC.seq ?_
          refine WC.cond rfl (fun hc => ?_) (fun _ => ?_)
          · first | exact absurd hc (by decide) | (exfalso; simp_all; done)
          refine WC.exit ?_
          show WC _ _ _ _ _ _
          refine WC.seq ?_
          refine WC.region ?_
          refine WO.run 1 rfl ?_
          refine WO.nil ?_
          show WC _ _ _ _ _ _
          refine WC.ret ?_
          refine ⟨_, (res_tmp rfl res_nil), ?_⟩
          exact ⟨rfl, hs2.none⟩
      · replace c171 := ne_of_beq_false c171
        refine WC.seq ?_
        refine WC.region ?_
        refine WO.run 1 rfl ?_
        refine WO2.call rfl rfl rfl rfl rfl ?_
        refine WF.mono (validRune_wf r _) ?_
        rintro _ σ2 ⟨bv, rfl, hσ⟩
        obtain rfl := hσ.symm
        refine ⟨_, rfl, ?_⟩
        refine WO.run 2 rfl ?_
        refine WO.nil ?_
        show WC _ _ _ _ _ _
        refine WC.cond rfl (fun c183 => ?_) (fun c183 => ?_)
        · replace c183 := not_true_eq c183
          refine WC.seq ?_
          refine WC.region ?_
          refine WO.run 1 rfl ?_
          refine WO.nil ?_
          show WC _ _ _ _ _ _
          refine WC.ret ?_
          refine ⟨_, (res_tmp rfl res_nil), ?_⟩
          exact ⟨rfl, hs0.none⟩
        · replace c183 := not_false_eq c183
          refine WC.scope ?_
          refine WC.seq ?_
          refine WC.region ?_
          refine WO.run 3 rfl ?_
          refine WO.nil ?_
          show WC _ _ _ _ _ _
          refine WC.seq ?_
          refine WC.region ?_
          refine WO.run 2 rfl ?_
          refine WO2.val (v' := .int .i64 (((runeB r).length - 1 : Nat) : Int)) rfl rfl (iv_wrap (by show ((runeB r).length : Int) - 1 = _; omega) (by omega)) rfl ?_
          refine WO.run 1 rfl ?_
          refine WO.nil ?_
          show WC _ _ _ _ _ _
          refine WC.seq ?_
          refine WC.region ?_
          refine WO.run 2 rfl ?_
          refine WO.nil ?_
          show WC _ _ _ _ _ _
          refine WC.seq ?_
          refine WC.region ?_
          refine WO.run 1 rfl ?_
          refine WO.nil ?_
          show WC _ _ _ _ _ _
          refine WC.seq ?_
          refine WC.block ?_
          refine WC.lp1 (fun (_ : Unit) => [(9, .int .i64 (((runeB r).length - 1 : Nat) : Int))]) [4, 10, 11, 12, 23, 24, 25, 26, 27, 28, 29, 30, 31, 32, 33, 34, 35, 36, 37, 38, 39, 40, 41, 42, 43, 44, 45, 46, 47, 48, 49, 50, 51, 52, 53, 54, 55, 56, 57, 58, 59, 60, 61, 62, 63, 64, 65, 66, 67, 68, 69, 70, 71, 72, 73, 74, 75, 76, 77, 78, 79, 80, 81, 82, 83, 84, 85, 86, 87, 88, 89, 90, 91, 92, 93, 94, 95, 96, 97, 98] (fun (_ : Unit) => fun τ => Hs [] σ τ []) (fun (_ : Unit) => 0) () (fun _ _ => rfl) rfl hs0 ?_
          rintro _ g τ hs
          refine WC.seq ?_
          refine WC.seq ?_
          refine WC.region ?_
          refine WO.run 4 rfl ?_
          refine WO.nil ?_
          show WC _ _ _ _ _ _
          refine WC.cond rfl (fun c26 => ?_) (fun c26 => ?_)
          · replace c26 := of_decide_eq_true c26
            refine WC.skip ?_
            show WC _ _ _ _ _ _
            refine WC.block ?_
            refine WC.scope ?_
            refine WC.seq ?_
            refine WC.seq ?_
            refine WC.draw (by kernel_rfl) ?_
            refine WD.run 2 rfl ?_
            refine WD3.indexStr rfl rfl rfl rfl rfl rfl (by omega) rfl ?_
            refine WD.run 2 rfl ?_
            refine WD3.indexStr rfl rfl rfl rfl rfl rfl (by show (runeB r).length - 1 < (runeB r).length; omega) rfl ?_
            refine WD.run 1 rfl ?_
            refine WD.nil ⟨reads_ok trivial, ?_⟩
            show WC _ _ _ _ _ _
            refine WC.cond rfl (fun c33 => ?_) (fun c33 => ?_)
            · replace c33 := bne_iff_ne.1 c33
              refine WC.seq ?_
              refine WC.draw (by kernel_rfl) ?_
              refine WD.run 2 rfl ?_
              refine WD2.val (v' := .int .i64 (((runeB r).length - 1 + 1 : Nat) : Int)) rfl rfl rfl (iv_wrap (by omega) (by omega)) rfl ?_
              refine WD2.op0 rfl rfl (Ob.strLo rfl rfl rfl rfl (by omega)) rfl ?_
              refine WD.run 2 rfl ?_
              refine WD3.indexStr rfl rfl rfl rfl rfl rfl (by show (runeB r).length - 1 < (runeB r).length; omega) rfl ?_
              refine WD2.call rfl rfl rfl rfl rfl ?_
              refine WF.mono (indexByte1_wf (ctls.drop ((runeB r).length - 1 + 1)) ((runeB r).getD ((runeB r).length - 1) 0) _) ?_
              rintro _ σ2 ⟨rfl, hσ⟩
              obtain rfl := hσ.symm
              rw [not_ctl hlast]
              refine ⟨_, rfl, ?_⟩
              refine WD.run 1 rfl ?_
              refine WD.nil ⟨reads_ok trivial, ?_⟩
              show WC _ _ _ _ _ _
              refine WC.seq ?_
              refine WC.seq ?_
              refine WC.region ?_
              refine WO.run 2 rfl ?_
              refine WO.nil ?_
              show WC _ _ _ _ _ _
              refine WC.cond rfl (fun _ => ?_) (fun hc => ?_)
              rotate_left
              · first | exact absurd hc (by decide) | (exfalso; simp_all; done)
              refine WC.seq ?_
              refine WC.region ?_
              refine WO.run 1 rfl ?_
              refine WO.nil ?_
              show WC _ _ _ _ _ _
              refine WC.ret ?_
              refine ⟨_, (res_tmp rfl res_nil), ?_⟩
              exact ⟨rfl, hs.none⟩
            · replace c33 := eq_of_bne_false c33
              have c33' : ((ctls.getD ((runeB r).length - 1) 0).toNat : Int) = (((runeB r).getD ((runeB r).length - 1) 0).toNat : Int) := c33
              have := ctls_le ((runeB r).length - 1)
              exfalso
              omega
          · replace c26 := of_decide_eq_false c26
            refine WC.exit ?_
            show WC _ _ _ _ _ _
            refine WC.seq ?_
            refine WC.seq ?_
            refine WC.region ?_
            refine WO.run 1 rfl ?_
            refine WO.nil ?_
            show WC _ _ _ _ _ _
            refine WC.ret ?_
            refine ⟨_, (res_tmp rfl res_nil), ?_⟩
            exact ⟨rfl, hs.none⟩
  · refine ⟨_, rfl, ?_⟩
    replace h163 := of_decide_eq_false h163
    omega
/-! ### Runes of a text -/
theorem get_mk (s : B) (i : Nat) : (⟨s.toArray⟩ : ByteArray).get! i = s.getD i 0 := by
  show s.toArray[i]! = _
  simp [getElem!_def, List.getD_eq_getElem?_getD]
  cases s[i]? <;> rfl
theorem size_of (s : B) : (⟨s.toArray⟩ : ByteArray).size = s.length := by simp [ByteArray.size]
theorem decode_low {s : B} {pos : Nat} (h : (s.getD pos 0).toNat < 128) : Utf8.decode ⟨s.toArray⟩ pos = ((s.getD pos 0).toNat, 1) := by
  simp only [Utf8.decode, get_mk, Nat.add_zero]
  rw [if_pos h]
theorem decode_wide {s : B} {pos : Nat} (hh : 128 ≤ (s.getD pos 0).toNat) : 128 ≤ (Utf8.decode ⟨s.toArray⟩ pos).1 ∧ 1 ≤ (Utf8.decode ⟨s.toArray⟩ pos).2 ∧ ∀ j, pos ≤ j → j < pos + (Utf8.decode ⟨s.toArray⟩ pos).2 → 128 ≤ (s.getD j 0).toNat := by
  have one : ∀ j, pos ≤ j → j < pos + 1 → 128 ≤ (s.getD j 0).toNat := fun j h1 h2 => by
    obtain rfl : j = pos := by omega
    exact hh
  have hr : 128 ≤ Utf8.runeError := by decide
  simp only [Utf8.decode, get_mk, Nat.add_zero, size_of]
  rw [if_neg (by omega)]
  split
  · rename_i h
    simp only [Bool.and_eq_true, beq_iff_eq, decide_eq_true_eq] at h
    split
    · rename_i hc
      refine ⟨hc, by show 1 ≤ 2; omega, fun j h1 h2 => ?_⟩
      have h2' : j < pos + 2 := h2
      by_cases e : j = pos
      · rw [e]; exact hh
      · obtain rfl : j = pos + 1 := by omega
        omega
    · exact ⟨hr, Nat.le_refl _, one⟩
  · split
    · rename_i h
      simp only [Bool.and_eq_true, beq_iff_eq, decide_eq_true_eq] at h
      split
      · rename_i hc
        simp only [Bool.and_eq_true, decide_eq_true_eq] at hc
        refine ⟨by have := hc.1; omega, by show 1 ≤ 3; omega, fun j h1 h2 => ?_⟩
        have h2' : j < pos + 3 := h2
        by_cases e : j = pos
        · rw [e]; exact hh
        · by_cases e : j = pos + 1
          · rw [e]; omega
          · obtain rfl : j = pos + 2 := by omega
            omega
      · exact ⟨hr, Nat.le_refl _, one⟩
    · split
      · rename_i h
        simp only [Bool.and_eq_true, beq_iff_eq, decide_eq_true_eq] at h
        split
        · rename_i hc
          simp only [Bool.and_eq_true, decide_eq_true_eq] at hc
          refine ⟨by have := hc.1; omega, by show 1 ≤ 4; omega, fun j h1 h2 => ?_⟩
          have h2' : j < pos + 4 := h2
          by_cases e : j = pos
          · rw [e]; exact hh
          · by_cases e : j = pos + 1
            · rw [e]; omega
            · by_cases e : j = pos + 2
              · rw [e]; omega
              · obtain rfl : j = pos + 3 := by omega
                omega
        · exact ⟨hr, Nat.le_refl _, one⟩
      · exact ⟨hr, Nat.le_refl _, one⟩
theorem any_more {p : UInt8 → Bool} {s : B} {a b : Nat} (h : (s.take a).any p = false) (hj : ∀ j, a ≤ j → j < b → p (s.getD j 0) = false) : (s.take b).any p = false := by
  rw [List.any_eq_false] at *
  intro c hc
  obtain ⟨j, hjl, he⟩ := List.mem_iff_getElem.1 hc
  have hjb : j < b := by rw [List.length_take] at hjl; omega
  have hjs : j < s.length := by rw [List.length_take] at hjl; omega
  rw [List.getElem_take] at he
  by_cases hja : j < a
  · refine h c (List.mem_iff_getElem.2 ⟨j, by rw [List.length_take]; omega, ?_⟩)
    rw [List.getElem_take]; exact he
  · have := hj j (by omega) hjb
    rw [List.getD_eq_getElem?_getD, List.getElem?_eq_getElem hjs, he] at this
    simpa using this
theorem any_hit {p : UInt8 → Bool} {s : B} {j : Nat} (hj : j < s.length) (h : p (s.getD j 0) = true) : s.any p = true := by
  rw [List.getD_eq_getElem?_getD, List.getElem?_eq_getElem hj] at h
  exact List.any_eq_true.2 ⟨_, List.getElem_mem hj, h⟩
theorem byteAll {P : UInt8 → Prop} (h : ∀ n : Fin 256, P (UInt8.ofNat n.val)) (c : UInt8) : P c := by
  have := h ⟨c.toNat, c.toNat_lt⟩
  simpa using this
set_option maxRecDepth 100000 in
theorem ctl_index : ∀ c : UInt8, decide (0 ≤ Lib.indexByte ctls c) = isCtl c := byteAll (by decide)
theorem ctl_high {c : UInt8} (h : 128 ≤ c.toNat) : isCtl c = false := by
  rw [← ctl_index, show Lib.indexByte ctls c = -1 from not_ctl h 0]
  decide
theorem indexAny_wf (s : B) (h8 : s.length ≤ 8) (σ : LZ.H) : WF Tryd.prog ext1 120 [.str s, .str ctls] σ (fun v σ' => ∃ x : Int, v = .int .i64 x ∧ decide (0 ≤ x) = s.any isCtl) := by
  refine WF.body rfl Tryd.func120 rfl rfl ?_
  have hs0 := Hs.nil σ
  refine WC.seq ?_
  refine WC.region ?_
  refine WO.run 1 rfl ?_
  refine WO.nil ?_
  show WC _ _ _ _ _ _
  refine WC.seq ?_
  refine WC.seq ?_
  refine WC.region ?_
  refine WO.run 2 rfl ?_
  refine WO.nil ?_
  show WC _ _ _ _ _ _
  refine WC.cond rfl (fun c12 => ?_) (fun c12 => ?_)
  · replace c12 := show _ = ([] : List UInt8) from eq_of_beq c12
    exact absurd c12 (by decide)
  · replace c12 := show _ ≠ ([] : List UInt8) from ne_of_beq_false c12
    refine WC.skip ?_
    show WC _ _ _ _ _ _
    refine WC.seq ?_
    refine WC.seq ?_
    refine WC.region ?_
    refine WO.run 3 rfl ?_
    refine WO.nil ?_
    show WC _ _ _ _ _ _
    refine WC.cond rfl (fun c15 => ?_) (fun c15 => ?_)
    · replace c15 := eq_of_beq c15
      exact absurd c15 (by decide)
    · replace c15 := ne_of_beq_false c15
      refine WC.skip ?_
      show WC _ _ _ _ _ _
      refine WC.seq ?_
      refine WC.seq ?_
      refine WC.region ?_
      refine WO.run 2 rfl ?_
      refine WO2.call rfl rfl rfl rfl rfl ?_
      refine WF.mono (useSet_wf s.length h8 _) ?_
      rintro _ σ2 ⟨rfl, hσ⟩
      obtain rfl := hσ.symm
      refine ⟨_, rfl, ?_⟩
      refine WO.nil ?_
      show WC _ _ _ _ _ _
      refine WC.cond rfl (fun hc => ?_) (fun _ => ?_)
      · first | exact absurd hc (by decide) | (exfalso; simp_all; done)
      refine WC.skip ?_
      show WC _ _ _ _ _ _
      refine WC.seq ?_
      refine WC.seq ?_
      refine WC.region ?_
      refine WO.run 1 rfl ?_
      refine WO.ex rfl (Ob.range hs0 rfl rfl rfl fun _ => rfl) ?_
      rintro _ τ1 ⟨r45, rfl, hs1⟩
      refine ⟨_, rfl, ?_⟩
      clear hs0
      refine WO.nil ?_
      show WC _ _ _ _ _ _
      refine WC.block ?_
      refine WC.lp1 (fun (pos : Nat) => []) [4, 9, 10, 46, 47, 48, 49, 50, 51, 52, 53, 54] (fun (pos : Nat) => fun τ => Hs [] σ τ [At.obj r45 (.iter s pos)] ∧ (s.take pos).any isCtl = false) (fun (pos : Nat) => s.length - pos) (0) (fun _ _ => rfl) rfl ⟨hs1, rfl⟩ ?_
      rintro pos g τ ⟨hs, hno⟩
      refine WC.seq ?_
      refine WC.region ?_
      refine WO.ex rfl (Ob.next hs 0 rfl rfl rfl rfl) ?_
      rintro _ τ2 (⟨hn46, rfl, hs2⟩ | ⟨hn46, rfl, hs2⟩)
      · refine ⟨_, rfl, ?_⟩
        refine WO.run 1 rfl ?_
        refine WO.nil ?_
        show WC _ _ _ _ _ _
        refine WC.seq ?_
        refine WC.cond rfl (fun _ => ?_) (fun hc => ?_)
        rotate_left
        · first | exact absurd hc (by decide) | (exfalso; simp_all; done)
        refine WC.skip ?_
        show WC _ _ _ _ _ _
        refine WC.block ?_
        refine WC.seq ?_
        refine WC.region ?_
        refine WO.run 4 rfl ?_
        refine WO.nil ?_
        show WC _ _ _ _ _ _
        refine WC.seq ?_
        refine WC.region ?_
        refine WO.run 2 rfl ?_
        refine WO2.call rfl rfl rfl rfl rfl ?_
        rcases Nat.lt_or_ge (s.getD pos 0).toNat 128 with hlo | hhi
        · have hdec := decode_low hlo
          rw [hdec]
          refine WF.mono (indexRune_low (s.getD pos 0) hlo _) ?_
          rintro _ σ2 ⟨rfl, hσ⟩
          obtain rfl := hσ.symm
          refine ⟨_, rfl, ?_⟩
          refine WO.run 1 rfl ?_
          refine WO.nil ?_
          show WC _ _ _ _ _ _
          refine WC.cond rfl (fun c53 => ?_) (fun c53 => ?_)
          · replace c53 := of_decide_eq_true c53
            refine WC.seq ?_
            refine WC.region ?_
            refine WO.run 2 rfl ?_
            refine WO.nil ?_
            show WC _ _ _ _ _ _
            refine WC.ret ?_
            refine ⟨_, (res_tmp rfl res_nil), ?_⟩
            first
              | (refine ⟨(pos : Int), rfl, ?_⟩
                 rw [any_hit hn46 (by rw [← ctl_index]; exact decide_eq_true c53)]
                 exact decide_eq_true (by omega))
              | (refine ⟨-1, rfl, ?_⟩
                 rw [List.take_of_length_le hn46] at hno
                 rw [hno]
                 rfl)
          · replace c53 := of_decide_eq_false c53
            refine WC.skip ?_
            first
              | (have h9 := hs2
                 rw [hdec] at h9
                 have hc9 : isCtl (s.getD pos 0) = false := by rw [← ctl_index]; exact decide_eq_false c53
                 have h10 : (s.take (pos + 1)).any isCtl = false := any_more hno fun j h1 h2 => by rw [show j = pos by omega]; exact hc9
                 exact ⟨pos + 1, rfl, ⟨h9, h10⟩, by omega⟩)
              | exact ⟨_, rfl, ⟨hs2, any_more hno fun j h1 h2 => ctl_high (hdh.2.2 j h1 h2)⟩, by have := hdh.2.1; omega⟩
        · have hdh := decode_wide hhi
          refine WF.mono (indexRune_high _ hdh.1 _) ?_
          rintro _ σ2 ⟨rfl, hx⟩
          have hs3 := hs2.add' hx rfl
          refine ⟨_, rfl, ?_⟩
          refine WO.run 1 rfl ?_
          refine WO.nil ?_
          show WC _ _ _ _ _ _
          refine WC.cond rfl (fun hc => ?_) (fun _ => ?_)
          · first | exact absurd hc (by decide) | (exfalso; simp_all; done)
          refine WC.skip ?_
          first
            | (have h9 := hs3
               rw [hdec] at h9
               have hc9 : isCtl (s.getD pos 0) = false := by rw [← ctl_index]; exact decide_eq_false c53
               have h10 : (s.take (pos + 1)).any isCtl = false := any_more hno fun j h1 h2 => by rw [show j = pos by omega]; exact hc9
               exact ⟨pos + 1, rfl, ⟨h9, h10⟩, by omega⟩)
            | exact ⟨_, rfl, ⟨hs3, any_more hno fun j h1 h2 => ctl_high (hdh.2.2 j h1 h2)⟩, by have := hdh.2.1; omega⟩
      · refine ⟨_, rfl, ?_⟩
        refine WO.run 1 rfl ?_
        refine WO.nil ?_
        show WC _ _ _ _ _ _
        refine WC.seq ?_
        refine WC.cond rfl (fun hc => ?_) (fun _ => ?_)
        · first | exact absurd hc (by decide) | (exfalso; simp_all; done)
        refine WC.exit ?_
        show WC _ _ _ _ _ _
        refine WC.seq ?_
        refine WC.region ?_
        refine WO.run 1 rfl ?_
        refine WO.nil ?_
        show WC _ _ _ _ _ _
        refine WC.ret ?_
        refine ⟨_, (res_tmp rfl res_nil), ?_⟩
        first
          | (refine ⟨(pos : Int), rfl, ?_⟩
             rw [any_hit hn46 (by rw [← ctl_index]; exact decide_eq_true c53)]
             exact decide_eq_true (by omega))
          | (refine ⟨-1, rfl, ?_⟩
             rw [List.take_of_length_le hn46] at hno
             rw [hno]
             rfl)
theorem containsAny_wf (s : B) (h8 : s.length ≤ 8) (σ : LZ.H) : WF Tryd.prog ext1 105 [.str s, .str ctls] σ (fun v σ' => v = .bool (s.any isCtl)) := by
  refine WF.body rfl Tryd.func105 rfl rfl ?_
  have hs0 := Hs.nil σ
  refine WC.seq ?_
  refine WC.region ?_
  refine WO.run 1 rfl ?_
  refine WO.nil ?_
  show WC _ _ _ _ _ _
  refine WC.seq ?_
  refine WC.region ?_
  refine WO.run 2 rfl ?_
  refine WO2.call rfl rfl rfl rfl rfl ?_
  refine WF.mono (indexAny_wf s h8 _) ?_
  rintro _ σ2 ⟨x, rfl, hx⟩
  rw [← hx]
  refine ⟨_, rfl, ?_⟩
  refine WO.run 2 rfl ?_
  refine WO.nil ?_
  show WC _ _ _ _ _ _
  refine WC.ret ?_
  refine ⟨_, (res_tmp rfl res_nil), ?_⟩
  rfl
/-- Long texts: IndexAny by its contract. -/
def extIA : List LV → LZ.H → Option (LV × LZ.H)
  | [.str s, .str cs], σ => if 8 < s.length ∧ LZ.small s = true ∧ cs = ctls then some (.int .i64 (Lib.indexAny s cs), σ) else none
  | _, _ => none
def ext2 (f : Nat) : Option (List LV → LZ.H → Option (LV × LZ.H)) :=
  match f with
  | 120 => some extIA
  | _ => none
theorem indexAny_ctl : ∀ s : List UInt8, decide (0 ≤ Lib.indexAny s ctls) = s.any isCtl
  | [] => rfl
  | b :: l => by
    have ih := indexAny_ctl l
    have hge := Lib.indexAny_ge ctls l
    have hb : ctls.contains b = isCtl b := by
      simp only [ctls, isCtl, List.contains, List.elem_cons, List.elem_nil, Bool.or_false, Bool.or_assoc]
      cases b == 0 <;> cases b == 10 <;> cases b == 13 <;> rfl
    simp only [Lib.indexAny, List.any_cons, hb]
    cases hc : isCtl b with
    | true => simp
    | false =>
      simp only [Bool.false_eq_true, if_false, Bool.false_or]
      rw [← ih]
      split
      · rename_i e
        simp only [beq_iff_eq] at e
        rw [e]
      · rename_i e
        simp only [beq_iff_eq] at e
        rw [decide_eq_decide]
        omega
theorem extIA_eq {s : B} (h8 : 8 < s.length) (hs : LZ.small s = true) (σ : LZ.H) : extIA [.str s, .str ctls] σ = some (.int .i64 (Lib.indexAny s ctls), σ) := by
  unfold extIA
  simp only
  rw [if_pos ⟨h8, hs, trivial⟩]
theorem containsAny_long (s : B) (h8 : 8 < s.length) (hs : LZ.small s = true) (σ : LZ.H) : WF Tryd.prog ext2 105 [.str s, .str ctls] σ (fun v σ' => v = .bool (s.any isCtl)) := by
  refine WF.body rfl Tryd.func105 rfl rfl ?_
  have hs0 := Hs.nil σ
  refine WC.seq ?_
  refine WC.region ?_
  refine WO.run 1 rfl ?_
  refine WO.nil ?_
  show WC _ _ _ _ _ _
  refine WC.seq ?_
  refine WC.region ?_
  refine WO.run 2 rfl ?_
  refine WO2.call rfl rfl rfl rfl rfl ?_
  refine WF.extern (g := extIA) rfl (extIA_eq h8 hs _) ?_
  rw [← indexAny_ctl]
  refine ⟨_, rfl, ?_⟩
  refine WO.run 2 rfl ?_
  refine WO.nil ?_
  show WC _ _ _ _ _ _
  refine WC.ret ?_
  refine ⟨_, (res_tmp rfl res_nil), ?_⟩
  rfl
end Go.Proofs.YtamplhegepgaeaaDoor
end
section
/- The evaluator at this program: the told functions' contracts hold. -/
namespace Go.Proofs.YtamplhegepgaeaaDoor
open Go Go.LZ Go.RowKit
set_option maxRecDepth 100000
/-- The library's one variable that the walked code reads. -/
def G (w : World) : Prop := ∃ m, w.cell? ⟨0, 0, none⟩ = some (.int .i64 m)
theorem gok : GOK 1 G := fun w w' h ⟨m, hm⟩ => ⟨m, by rw [← hm]; simp only [World.cell?, h 0 (by omega)]⟩
theorem byName : ∀ (f : Nat) (fn : Func), Tryd.prog.funcs[f]? = some fn → fn.name ≠ "runtime.NumGoroutine" := by
  have h : Tryd.prog.funcs.toList.all (fun fn => fn.name != "runtime.NumGoroutine") = true := by kernel_rfl
  intro f fn hf
  rw [List.all_eq_true] at h
  have := h fn (by have := Array.mem_of_getElem? hf; exact Array.mem_def.1 this)
  simpa using this
theorem small_lt {s : List UInt8} (h : small s = true) : (⟨s.toArray⟩ : ByteArray).size < 4294967281 := by
  simp only [small, decide_eq_true_eq] at h
  rw [size_mk]; omega
theorem data_mk (s : List UInt8) : (⟨s.toArray⟩ : ByteArray).data.toList = s := by simp
variable {μ : Mu} {σ σ' : LZ.H} {w : World} {args : List LV} {vs : Array Value} {v : LV}
theorem sound_Cut (hx : extCut args σ = some (v, σ')) (hv : VRs μ args vs.toList) (h : HR 1 G μ σ w) : Calls Tryd.prog 60 vs w (PostR 1 G μ σ w v σ') := by
  unfold extCut at hx
  split at hx
  · rename_i s sep
    split at hx
    · rename_i hs
      obtain ⟨rfl, rfl⟩ := Prod.mk.inj (Option.some.inj hx)
      obtain ⟨x, y, rfl, h1, h2⟩ := vrs_two hv
      rw [vr_str_inv h1, vr_str_inv h2]
      obtain ⟨m, hm⟩ := h.glob
      refine ext_of gok h (fun μ => vr_tuple (.cons (.str _) (.cons (.str _) (.cons (.bool _) (.nil _))))) (Calls.mono (Tryd.strings_Cut ⟨s.toArray⟩ ⟨sep.toArray⟩ m w (small_lt hs) hm) fun e w' hp => ?_)
      obtain ⟨rfl, n, rfl⟩ := hp
      exact ⟨rfl, below_drewN w n⟩
    · cases hx
  · cases hx
theorem sound_IndexByte (hx : extIndexByte args σ = some (v, σ')) (hv : VRs μ args vs.toList) (h : HR 1 G μ σ w) : Calls Tryd.prog 58 vs w (PostR 1 G μ σ w v σ') := by
  unfold extIndexByte at hx
  split at hx
  · rename_i s c
    obtain ⟨rfl, rfl⟩ := Prod.mk.inj (Option.some.inj hx)
    obtain ⟨x, y, rfl, h1, h2⟩ := vrs_two hv
    rw [vr_str_inv h1]
    cases h2
    refine ext_of gok h (fun μ => .int _ _) (Calls.mono (Tryd.strings_IndexByte ⟨s.toArray⟩ c w) fun e w' hp => ?_)
    obtain ⟨rfl, rfl⟩ := hp
    exact ⟨rfl, Below.refl _ _⟩
  · cases hx
theorem sound_TrimLeft (hx : extTrimLeft args σ = some (v, σ')) (hv : VRs μ args vs.toList) (h : HR 1 G μ σ w) : Calls Tryd.prog 75 vs w (PostR 1 G μ σ w v σ') := by
  unfold extTrimLeft at hx
  split at hx
  · rename_i s c
    split at hx
    · rename_i hc
      obtain ⟨rfl, rfl⟩ := Prod.mk.inj (Option.some.inj hx)
      obtain ⟨x, y, rfl, h1, h2⟩ := vrs_two hv
      rw [vr_str_inv h1, vr_str_inv h2]
      refine ext_of gok h (fun μ => .str _) (Calls.mono (Tryd.strings_TrimLeft_one ⟨s.toArray⟩ c hc w) fun e w' hp => ?_)
      obtain ⟨rfl, rfl⟩ := hp
      exact ⟨rfl, Below.refl _ _⟩
    · cases hx
  · cases hx
theorem sound_Join (hx : extJoin args σ = some (v, σ')) (hv : VRs μ args vs.toList) (h : HR 1 G μ σ w) : Calls Tryd.prog 37 vs w (PostR 1 G μ σ w v σ') := by
  unfold extJoin at hx
  split at hx
  · rename_i p n k sep
    obtain ⟨x, y, rfl, h1, h2⟩ := vrs_two hv
    rw [vr_str_inv h2]
    have none_ : ∀ (a : Option Addr) (c : Nat), Calls Tryd.prog 37 #[.slice a 0 c, .string ⟨sep.toArray⟩] w (PostR 1 G μ σ w (.str []) σ) := fun a c =>
      ext_of gok h (fun μ => .str _) (Calls.mono (Tryd.strings_Join_none a c ⟨sep.toArray⟩ w) fun e w' hp => by
        obtain ⟨rfl, rfl⟩ := hp
        exact ⟨rfl, Below.refl _ _⟩)
    split at hx
    · obtain ⟨rfl, rfl⟩ := Prod.mk.inj (Option.some.inj hx)
      cases h1
      exact none_ _ _
    · rename_i r off z
      split at hx
      · rename_i hc
        obtain ⟨rfl, hn⟩ := hc
        split at hx
        · rename_i xs hxs
          split at hx
          · rename_i hsm
            obtain ⟨rfl, rfl⟩ := Prod.mk.inj (Option.some.inj hx)
            obtain ⟨ys, hy, hst⟩ := Option.bind_eq_some_iff.1 hxs
            cases h1 with
            | sliceE p a =>
              have hys : ys = [] := by
                unfold readRow at hy
                split at hy
                · obtain ⟨_, rfl⟩ := takeAt_some hy; simp
                · cases hy
              subst hys
              simp only [strsOf] at hst
              obtain rfl := Option.some.inj hst
              exact none_ _ _
            | slice hl hk hcap hs =>
              rename_i c loc
              obtain ⟨us, hrun, hus, hlen, _⟩ := read_sound (P := Tryd.prog) h hy hl
              have hvs := strs_sound hst hus
              have hxl : xs.length = n := by
                have := congrArg List.length hvs
                have := hus.1
                simp at *
                omega
              unfold readRow at hy
              split at hy
              · rename_i e ro cs hr
                obtain ⟨hle, rfl⟩ := takeAt_some hy
                obtain ⟨loc', C, fr, q1, q2, q3, q4, _, _⟩ := h.row hr
                rw [hl] at q1
                obtain rfl := Option.some.inj q1
                have hseg := run_loads (P := Tryd.prog) (w := w) q2 (o := loc.base + off) (n := n) (by have := q4.1; omega)
                rw [hrun] at hseg
                have hus' : us = (C.toList.drop (loc.base + off)).take n := by
                  have := congrArg (fun r => match r with | Result.ok a _ => a.toList | _ => []) hseg
                  simpa using this
                have hj := Tryd.strings_Join loc.b (loc.base + off) c (xs.map fun s => ⟨s.toArray⟩) ⟨sep.toArray⟩ w (fun j x hx => by
                  rw [List.getElem?_map] at hx
                  obtain ⟨s, hs', rfl⟩ := Option.map_eq_some_iff.1 hx
                  have h5 : us[j]? = some (.string ⟨s.toArray⟩) := by rw [hvs, List.getElem?_map, hs']; rfl
                  rw [hus', List.getElem?_take] at h5
                  split at h5
                  · rw [List.getElem?_drop] at h5
                    rw [cell_at q2]
                    simpa using h5
                  · cases h5) (Array.getElem?_eq_some_iff.1 q2).1 (by simp; omega) (by simp; omega) (by
                    simp only [List.map_map, Function.comp_def, data_mk, List.map_id']
                    omega)
                simp only [List.map_map, Function.comp_def, data_mk, List.map_id', List.length_map] at hj
                rw [hxl] at hj
                exact ext_of gok h (fun μ => .str _) hj
              · cases hy
          · cases hx
        · cases hx
      · cases hx
  · cases hx

/-! ### Calls on values without addresses -/
theorem call_of {ext : Nat → Option (List LV → LZ.H → Option (LV × LZ.H))} (hok : Ok Tryd.prog 1 G ext) {f : Nat} {args : List LV} {Q : LV → Prop} (hx : WF Tryd.prog ext f args ⟨.nil, 0⟩ fun v _ => Q v) (hv : ∀ μ, VRs μ args vs.toList) (hB : 1 ≤ w.heap.size) (hg : G w) :
    Calls Tryd.prog f vs w fun e w' => ∃ v u μ, Q v ∧ e = .returned u ∧ VR μ v u ∧ Below w.heap.size w w' := by
  obtain ⟨k, v', σ', hr, hq⟩ := hx
  have h0 : HR 1 G (fun _ => none) ⟨.nil, 0⟩ w := ⟨fun r o h => by simp [Tr.get] at h, fun r r' o o' l l' h => by simp [Tr.get] at h, fun _ _ => rfl, hB, hg⟩
  refine Calls.mono (run_calls hok hr (hv _) h0) fun e w' hp => ?_
  obtain ⟨u, μ', rfl, hv, hh, hs⟩ := hp
  exact ⟨v', u, μ', hq, rfl, hv, hs.os, hs.tape, hs.output, hs.size, fun b hb => hs.keep b hb fun ⟨r, o, loc, h, _⟩ => by simp [Tr.get] at h⟩
theorem vrs_strs (s t : List UInt8) (μ : Mu) : VRs μ [.str s, .str t] (#[.string ⟨s.toArray⟩, .string ⟨t.toArray⟩] : Array Value).toList := .cons (.str _) (.cons (.str _) (.nil _))
theorem ok1 : Ok Tryd.prog 1 G ext1 := {
  glob := gok
  mixed := by kernel_rfl
  names := byName
  ext := fun f g hf => by
    unfold ext1 at hf
    split at hf
    · obtain rfl := Option.some.inj hf
      exact ⟨⟨_, rfl, by kernel_rfl⟩, fun args σ v σ' hx μ vs w hv h => sound_IndexByte hx hv h⟩
    · cases hf }
theorem ctls_ascii : ∀ (j : Nat) b, (⟨ctls.toArray⟩ : ByteArray).data.toList[j]? = some b → b.toNat < 128 := by
  intro j b hb
  rw [data_mk] at hb
  have hm := List.mem_of_getElem? hb
  simp only [ctls, List.mem_cons, List.not_mem_nil, or_false] at hm
  rcases hm with rfl | rfl | rfl <;> decide
theorem h152 : (Tryd.prog.info? 152).map (fun i => (i.zero, i.size)) = some (some (.agg (Array.replicate 256 (.bool false))), 256) := by kernel_rfl
theorem sound_IA (hx : extIA args σ = some (v, σ')) (hv : VRs μ args vs.toList) (h : HR 1 G μ σ w) : Calls Tryd.prog 120 vs w (PostR 1 G μ σ w v σ') := by
  unfold extIA at hx
  split at hx
  · rename_i s cs
    split at hx
    · rename_i hc
      obtain ⟨c1, c2, rfl⟩ := hc
      obtain ⟨rfl, rfl⟩ := Prod.mk.inj (Option.some.inj hx)
      obtain ⟨x, y, rfl, h1, h2⟩ := vrs_two hv
      rw [vr_str_inv h1, vr_str_inv h2]
      refine ext_of gok h (fun μ => .int _ _) ((Tryd.strings_IndexAny_long (zero_of_info h152).1 ⟨s.toArray⟩ ⟨ctls.toArray⟩ w (by rw [size_of]; decide) (by rw [size_of]; exact c1) (small_lt c2) (by rw [size_of]; decide) ctls_ascii).mono fun e w' hp => ?_)
      obtain ⟨rfl, rfl⟩ := hp
      refine ⟨by rw [data_mk, data_mk], ?_⟩
      exact ((Below.refl _ _).alloc (Nat.le_refl _) _).alloc (by simp) _
    · cases hx
  · cases hx
theorem ok2 : Ok Tryd.prog 1 G ext2 := {
  glob := gok
  mixed := by kernel_rfl
  names := byName
  ext := fun f g hf => by
    unfold ext2 at hf
    split at hf
    · obtain rfl := Option.some.inj hf
      exact ⟨⟨_, rfl, by kernel_rfl⟩, fun args σ v σ' hx μ vs w hv h => sound_IA hx hv h⟩
    · cases hf }
theorem sound_Ctl (hx : extCtl args σ = some (v, σ')) (hv : VRs μ args vs.toList) (h : HR 1 G μ σ w) : Calls Tryd.prog 105 vs w (PostR 1 G μ σ w v σ') := by
  unfold extCtl at hx
  split at hx
  · rename_i s
    split at hx
    · rename_i hc
      obtain ⟨rfl, rfl⟩ := Prod.mk.inj (Option.some.inj hx)
      obtain ⟨x, y, rfl, h1, h2⟩ := vrs_two hv
      rw [vr_str_inv h1, vr_str_inv h2]
      by_cases h8 : s.length ≤ 8
      · refine ext_of gok h (fun μ => .bool _) ((call_of ok1 (containsAny_wf s h8 _) (vrs_strs s ctls) h.size h.glob).mono fun e w' hp => ?_)
        obtain ⟨v, u, μ', rfl, rfl, hv, hb⟩ := hp
        cases hv
        exact ⟨rfl, hb⟩
      · refine ext_of gok h (fun μ => .bool _) ((call_of ok2 (containsAny_long s (by omega) hc _) (vrs_strs s ctls) h.size h.glob).mono fun e w' hp => ?_)
        obtain ⟨v, u, μ', rfl, rfl, hv, hb⟩ := hp
        cases hv
        exact ⟨rfl, hb⟩
    · cases hx
  · cases hx
/-- All of them but the closed sentence. -/
def ext0 (f : Nat) : Option (List LV → LZ.H → Option (LV × LZ.H)) :=
  match f with
  | 37 => some extJoin
  | 58 => some extIndexByte
  | 60 => some extCut
  | 75 => some extTrimLeft
  | 105 => some extCtl
  | _ => none
theorem ok0 : Ok Tryd.prog 1 G ext0 := {
  glob := gok
  mixed := by kernel_rfl
  names := byName
  ext := fun f g hf => by
    unfold ext0 at hf
    split at hf
    all_goals first
      | (cases hf; done)
      | (obtain rfl := Option.some.inj hf
         refine ⟨⟨_, rfl, by kernel_rfl⟩, fun args σ v σ' hx μ vs w hv h => ?_⟩
         first
           | exact sound_Cut hx hv h
           | exact sound_Join hx hv h
           | exact sound_IndexByte hx hv h
           | exact sound_TrimLeft hx hv h
           | exact sound_Ctl hx hv h) }
/-- The closed sentence of this layer. -/
theorem begun_true : ((run Tryd.prog ext0 2000).call 8 [] ⟨.nil, 0⟩).map (·.1) = some (.bool true) := by kernel_rfl
theorem sound_Begun (hx : extBegun args σ = some (v, σ')) (hv : VRs μ args vs.toList) (h : HR 1 G μ σ w) : Calls Tryd.prog 8 vs w (PostR 1 G μ σ w v σ') := by
  unfold extBegun at hx
  split at hx
  · obtain ⟨rfl, rfl⟩ := Prod.mk.inj (Option.some.inj hx)
    obtain rfl : vs = #[] := by have := hv.nil_inv; simpa using this
    exact ext_of gok h (fun μ => .bool _) (closed_true ok0 begun_true h.size h.glob)
  · cases hx
theorem ok : Ok Tryd.prog 1 G ext := {
  glob := gok
  mixed := by kernel_rfl
  names := byName
  ext := fun f g hf => by
    by_cases h8 : f = 8
    · subst h8
      obtain rfl := Option.some.inj hf
      exact ⟨⟨_, rfl, by kernel_rfl⟩, fun args σ v σ' hx μ vs w hv h => sound_Begun hx hv h⟩
    · refine ok0.ext f g ?_
      unfold ext at hf
      unfold ext0
      split at hf
      · exact absurd rfl h8
      all_goals first
        | exact hf
        | cases hf }
end Go.Proofs.YtamplhegepgaeaaDoor
end

/- The plain law: what is asked is read. -/
import Derived.Test.YtamplhegepgaeaaDoorWb
section
/- The plain law, part 1: texts cut, letters and settings there and back. -/
open Go Go.LZ
namespace Go.Proofs.YtamplhegepgaeaaDoor
set_option linter.unusedSimpArgs false
set_option linter.unusedVariables false
set_option maxRecDepth 20000
/-! ### Texts cut -/
theorem index_byte {c : UInt8} : ∀ {a r : B}, c ∉ a → Lib.index (a ++ c :: r) [c] = (a.length : Int)
  | [], r, _ => by simp [Lib.index]
  | x :: a, r, h => by
    simp only [List.mem_cons, not_or] at h
    have ih := index_byte (r := r) h.2
    simp only [List.cons_append, Lib.index]
    rw [ih]
    have hx : (c == x) = false := by simpa using h.1
    simp [List.isPrefixOf, hx]
theorem cut_byte {c : UInt8} {a r : B} (h : c ∉ a) : Lib.cut (a ++ c :: r) [c] = (a, r, true) := by
  unfold Lib.cut
  rw [index_byte h, if_pos (by omega)]
  simp
theorem index_line : ∀ {a r : B}, (13 : UInt8) ∉ a → Lib.index (a ++ 13 :: 10 :: r) crlf = (a.length : Int)
  | [], r, _ => by simp [Lib.index, crlf, List.isPrefixOf]
  | x :: a, r, h => by
    simp only [List.mem_cons, not_or] at h
    have ih := index_line (r := r) h.2
    simp only [List.cons_append, Lib.index]
    rw [ih]
    have hx : ((13 : UInt8) == x) = false := by simpa using h.1
    simp [crlf, List.isPrefixOf, hx]
theorem cut_line {a r : B} (h : (13 : UInt8) ∉ a) : Lib.cut (a ++ crlf ++ r) crlf = (a, r, true) := by
  have e : a ++ crlf ++ r = a ++ 13 :: 10 :: r := by simp [crlf]
  rw [e]
  unfold Lib.cut
  rw [index_line h, if_pos (by omega)]
  simp [crlf]
theorem index_short : ∀ {a : B}, (13 : UInt8) ∉ a → Lib.index a crlf = -1 ∧ Lib.index (a ++ [13]) crlf = -1
  | [], _ => by decide
  | x :: a, h => by
    simp only [List.mem_cons, not_or] at h
    have ih := index_short h.2
    have hx : ((13 : UInt8) == x) = false := by simpa using h.1
    simp only [List.cons_append, Lib.index, ih.1, ih.2]
    simp [crlf, List.isPrefixOf, hx]
theorem cut_short {a : B} (h : (13 : UInt8) ∉ a) : (Lib.cut a crlf).2.2 = false ∧ (Lib.cut (a ++ [13]) crlf).2.2 = false := by
  have := index_short h
  unfold Lib.cut
  rw [this.1, this.2]
  exact ⟨rfl, rfl⟩
/-! ### Letters -/
set_option maxRecDepth 100000 in
theorem index_letter : ∀ n : Fin 64, Lib.indexByte letters (letter n.val) = (n.val : Int) := by decide
theorem index_letter' {n : Nat} (h : n < 64) : Lib.indexByte letters (letter n) = (n : Int) := index_letter ⟨n, h⟩
theorem dstep_letter (out : B) (w b n : Nat) (h : n < 64) : dstep (out, w, b) (letter n) = if 8 ≤ b + 6 then some (out ++ [UInt8.ofNat ((w * 64 + n) / 2 ^ (b + 6 - 8))], (w * 64 + n) % 2 ^ (b + 6 - 8), b + 6 - 8) else some (out, (w * 64 + n) % 2 ^ (b + 6), b + 6) := by
  unfold dstep
  rw [index_letter' h]
  simp only [Int.toNat_natCast]
  rw [if_neg (by omega)]
def quad (a b c : UInt8) : B := [letter (a.toNat / 4), letter (a.toNat % 4 * 16 + b.toNat / 16), letter (b.toNat % 16 * 4 + c.toNat / 64), letter (c.toNat % 64)]
theorem q1 (a b c : Nat) (ha : a < 256) (hb : b < 256) (hc : c < 256) : (0 * 256 + a) / 2 ^ (0 + 8 - 6) % 64 = a / 4 := by rw [show (2 ^ (0 + 8 - 6) : Nat) = 4 from rfl]; omega
theorem q2 (a b c : Nat) (ha : a < 256) (hb : b < 256) (hc : c < 256) : (0 * 256 + a) % 2 ^ ((0 + 8) % 6) = a % 4 := by rw [show (2 ^ ((0 + 8) % 6) : Nat) = 4 from rfl]; omega
theorem q3 (a b c : Nat) (ha : a < 256) (hb : b < 256) (hc : c < 256) : (a % 4 * 256 + b) / 2 ^ (2 + 8 - 6) % 64 = a % 4 * 16 + b / 16 := by rw [show (2 ^ (2 + 8 - 6) : Nat) = 16 from rfl]; omega
theorem q4 (a b c : Nat) (ha : a < 256) (hb : b < 256) (hc : c < 256) : (a % 4 * 256 + b) % 2 ^ ((2 + 8) % 6) = b % 16 := by rw [show (2 ^ ((2 + 8) % 6) : Nat) = 16 from rfl]; omega
theorem q5 (a b c : Nat) (ha : a < 256) (hb : b < 256) (hc : c < 256) : (b % 16 * 256 + c) / 2 ^ (4 + 8 - 6) % 64 = b % 16 * 4 + c / 64 := by rw [show (2 ^ (4 + 8 - 6) : Nat) = 64 from rfl]; omega
theorem q6 (a b c : Nat) (ha : a < 256) (hb : b < 256) (hc : c < 256) : (b % 16 * 256 + c) / 2 ^ (4 + 8 - 6 - 6) % 64 = c % 64 := by rw [show (2 ^ (4 + 8 - 6 - 6) : Nat) = 1 from rfl]; omega
theorem q7 (a b c : Nat) (ha : a < 256) (hb : b < 256) (hc : c < 256) : (b % 16 * 256 + c) % 2 ^ ((4 + 8) % 6) = 0 := by rw [show (2 ^ ((4 + 8) % 6) : Nat) = 1 from rfl]; omega
theorem code_three (out : B) (a b c : UInt8) (r : B) : (a :: b :: c :: r).foldl cstep (out, 0, 0) = r.foldl cstep (out ++ quad a b c, 0, 0) := by
  have ha := a.toNat_lt
  have hb := b.toNat_lt
  have hc := c.toNat_lt
  have h1 := q1 _ _ _ ha hb hc
  have h2 := q2 _ _ _ ha hb hc
  have h3 := q3 _ _ _ ha hb hc
  have h4 := q4 _ _ _ ha hb hc
  have h5 := q5 _ _ _ ha hb hc
  have h6 := q6 _ _ _ ha hb hc
  have h7 := q7 _ _ _ ha hb hc
  simp only [List.foldl_cons]
  congr 1
  have e1 : cstep (out, 0, 0) a = (out ++ [letter (a.toNat / 4)], a.toNat % 4, 2) := by
    simp only [cstep]
    rw [emit_ge (by omega), emit_lt (by omega), h1, h2]
  rw [e1]
  have e2 : cstep (out ++ [letter (a.toNat / 4)], a.toNat % 4, 2) b = (out ++ [letter (a.toNat / 4)] ++ [letter (a.toNat % 4 * 16 + b.toNat / 16)], b.toNat % 16, 4) := by
    simp only [cstep]
    rw [emit_ge (by omega), emit_lt (by omega), h3, h4]
  rw [e2]
  simp only [cstep]
  rw [emit_ge (by omega), emit_ge (by omega), emit_lt (by omega), h5, h6, h7]
  simp only [quad, List.append_assoc, List.cons_append, List.nil_append]
theorem decode_three (out : B) (a b c : UInt8) (r : B) : runL dstep (out, 0, 0) (quad a b c ++ r) = runL dstep (out ++ [a, b, c], 0, 0) r := by
  have ha := a.toNat_lt
  have hb := b.toNat_lt
  have hc := c.toNat_lt
  simp only [quad, List.cons_append, List.nil_append, runL]
  rw [dstep_letter _ _ _ _ (by omega), if_neg (by omega)]
  simp only [Option.bind_some]
  rw [dstep_letter _ _ _ _ (by omega), if_pos (by omega)]
  simp only [Option.bind_some]
  rw [dstep_letter _ _ _ _ (by omega), if_pos (by omega)]
  simp only [Option.bind_some]
  rw [dstep_letter _ _ _ _ (by omega), if_pos (by omega)]
  simp only [Option.bind_some]
  have back : ∀ (x : UInt8) (n : Nat), n = x.toNat → UInt8.ofNat n = x := fun x n h => by rw [h]; simp
  congr 1
  simp only [List.append_assoc, List.cons_append, List.nil_append]
  refine Prod.ext ?_ (Prod.ext ?_ ?_)
  · simp only
    congr 1
    congr 1
    · exact back a _ (by omega)
    · congr 1
      · exact back b _ (by omega)
      · congr 1
        exact back c _ (by omega)
  · simp only; omega
  · rfl
theorem three_of {bs : B} (h : bs.length % 3 = 0) : bs = [] ∨ ∃ a b c r, bs = a :: b :: c :: r ∧ r.length % 3 = 0 := by
  match bs with
  | [] => exact .inl rfl
  | [a] => simp at h
  | [a, b] => simp at h
  | a :: b :: c :: r => exact .inr ⟨a, b, c, r, rfl, by simp only [List.length_cons] at h; omega⟩
theorem code_all : ∀ (m : Nat) (bs : B), bs.length = 3 * m → ∀ out : B, ∃ ls : B, bs.foldl cstep (out, 0, 0) = (out ++ ls, 0, 0) ∧ ls.length = 4 * m ∧ ∀ o : B, runL dstep (o, 0, 0) ls = some (o ++ bs, 0, 0) := by
  intro m
  induction m with
  | zero =>
    intro bs h out
    obtain rfl : bs = [] := List.length_eq_zero_iff.1 (by omega)
    exact ⟨[], by simp, rfl, fun o => by simp [runL]⟩
  | succ m ih =>
    intro bs h out
    rcases three_of (bs := bs) (by omega) with rfl | ⟨a, b, c, r, rfl, _⟩
    · simp at h
    · obtain ⟨ls, h1, h2, h3⟩ := ih r (by simp at h; omega) (out ++ quad a b c)
      refine ⟨quad a b c ++ ls, ?_, ?_, fun o => ?_⟩
      · rw [code_three, h1, List.append_assoc]
      · simp [quad, h2]; omega
      · rw [decode_three, h3, List.append_assoc]; rfl
theorem decode_code {bs : B} (h : bs.length % 3 = 0) : decodeL (codeL bs) = some bs := by
  obtain ⟨ls, h1, h2, h3⟩ := code_all (bs.length / 3) bs (by omega) []
  have e : codeL bs = ls := by
    unfold codeL codeR codeE
    rw [h1]
    simp
  rw [e]
  unfold decodeL
  rw [h3]
  simp only [List.nil_append]
  rw [if_neg]
  rintro (h | h)
  · omega
  · exact h rfl
/-! ### Settings -/
theorem set_back {s : Stg} (h : setOk s = true) (r : B) : setsR (setB s ++ r) = s :: setsR r := by
  simp only [setOk, word, Bool.and_eq_true, decide_eq_true_eq] at h
  obtain ⟨⟨h1, h2⟩, h3, h4⟩ := h
  rcases s with ⟨id, v⟩
  simp only at h1 h2 h3 h4
  obtain ⟨i, rfl⟩ : ∃ i : Nat, id = i := ⟨id.toNat, by omega⟩
  obtain ⟨w, rfl⟩ : ∃ w : Nat, v = w := ⟨v.toNat, by omega⟩
  simp only [setB, layB, Int.toNat_natCast, List.cons_append, List.nil_append, setsR, mkS, num, List.foldl_cons, List.foldl_nil, UInt8.toNat_ofNat']
  congr 1
  congr 1
  · omega
  · omega
theorem sets_back : ∀ {ss : List Stg}, ss.all setOk = true → setsR (ss.flatMap setB) = ss
  | [], _ => rfl
  | s :: ss, h => by
    simp only [List.all_cons, Bool.and_eq_true] at h
    rw [List.flatMap_cons, set_back h.1, sets_back h.2]
end Go.Proofs.YtamplhegepgaeaaDoor
end
section
/- The plain law, part 2: lines that are read; fields of a request. -/
open Go Go.LZ
namespace Go.Proofs.YtamplhegepgaeaaDoor
set_option linter.unusedSimpArgs false
set_option linter.unusedVariables false
set_option maxRecDepth 20000
/-! ### Lines -/
def T (ls : List B) : B := ls.flatMap (· ++ crlf)
theorem T_cons (l : B) (ls : List B) : T (l :: ls) = l ++ crlf ++ T ls := by simp [T]
theorem rd_line (m i : Nat) (st : Rq) (used : Nat) {l : B} (r : B) (h : (13 : UInt8) ∉ l) : rd (m + 1) i st used (l ++ crlf ++ r) =
    if i = 0 then (if (firstL l).2.2 = true then rd m 1 { st with me := (firstL l).1, pa := (firstL l).2.1 } (used + (l.length + 2)) r else .form)
    else if l = [] then .ask st (used + (l.length + 2))
    else if lineOk l = true then rd m (i + 1) (takesL st (lineF l)) (used + (l.length + 2)) r
    else .form := by
  simp only [rd, cut_line h]
  rw [if_neg (by simp)]
theorem rd_stop (m i : Nat) (st : Rq) (used : Nat) {r : B} (h : (Lib.cut r crlf).2.2 = false) : rd m i st used r = .stop := by
  cases m with
  | zero => rfl
  | succ m => simp only [rd]; rw [if_pos h]
def goodLine (l : B) : Prop := (13 : UInt8) ∉ l ∧ l ≠ [] ∧ lineOk l = true
theorem rd_body : ∀ (ls : List B) (m i : Nat) (st : Rq) (used : Nat) (more : B), (∀ l ∈ ls, goodLine l) → i ≠ 0 → ls.length < m →
    rd m i st used (T ls ++ crlf ++ more) = .ask (ls.foldl (fun st l => takesL st (lineF l)) st) (used + ((T ls).length + 2))
  | [], m, i, st, used, more, _, hi, hm => by
    obtain ⟨m, rfl⟩ : ∃ k, m = k + 1 := ⟨m - 1, by simp at hm; omega⟩
    have e : T [] ++ crlf ++ more = [] ++ crlf ++ more := rfl
    rw [e, rd_line m i st used more (by simp), if_neg hi, if_pos rfl]
    rfl
  | l :: ls, m, i, st, used, more, hall, hi, hm => by
    obtain ⟨m, rfl⟩ : ∃ k, m = k + 1 := ⟨m - 1, by simp at hm; omega⟩
    obtain ⟨h1, h2, h3⟩ := hall l (List.mem_cons_self ..)
    have e : T (l :: ls) ++ crlf ++ more = l ++ crlf ++ (T ls ++ crlf ++ more) := by rw [T_cons]; simp only [List.append_assoc]
    rw [e, rd_line m i st used _ h1, if_neg hi, if_neg h2, if_pos h3, rd_body ls m (i + 1) _ _ more (fun l hl => hall l (List.mem_cons_of_mem _ hl)) (by omega) (by simp at hm; omega)]
    rw [T_cons]
    simp only [List.foldl_cons, List.length_append, crlf, List.length_cons, List.length_nil]
    congr 1
    omega
/-- What a front of a line and what follows may be. -/
theorem take_line {l r : B} {n : Nat} (h : (13 : UInt8) ∉ l) : (Lib.cut ((l ++ crlf ++ r).take n) crlf).2.2 = false ∨ (l.length + 2 ≤ n ∧ (l ++ crlf ++ r).take n = l ++ crlf ++ r.take (n - (l.length + 2))) := by
  by_cases h1 : n ≤ l.length
  · left
    rw [List.append_assoc, List.take_append_of_le_length h1]
    exact (cut_short fun hm => h (List.mem_of_mem_take hm)).1
  · by_cases h2 : n = l.length + 1
    · left
      have e : (l ++ crlf ++ r).take n = l ++ [13] := by
        rw [List.append_assoc, List.take_append, List.take_of_length_le (by omega)]
        congr 1
        rw [show n - l.length = 1 by omega]
        rfl
      rw [e]
      exact (cut_short h).2
    · right
      refine ⟨by omega, ?_⟩
      rw [List.take_append, List.take_of_length_le (by simp [crlf]; omega)]
      congr 2
      simp [crlf]
theorem rd_front : ∀ (ls : List B) (m i : Nat) (st : Rq) (used n : Nat), (∀ l ∈ ls, goodLine l) → i ≠ 0 → n < (T ls ++ crlf).length →
    rd m i st used ((T ls ++ crlf).take n) = .stop
  | [], m, i, st, used, n, _, hi, hn => by
    have e : T [] ++ crlf = [] ++ crlf ++ [] := rfl
    rw [e]
    have hn2 : n < 2 := hn
    rcases take_line (l := []) (r := []) (n := n) (by simp) with h | ⟨h, _⟩
    · exact rd_stop _ _ _ _ h
    · simp at h; omega
  | l :: ls, m, i, st, used, n, hall, hi, hn => by
    obtain ⟨h1, h2, h3⟩ := hall l (List.mem_cons_self ..)
    have e : T (l :: ls) ++ crlf = l ++ crlf ++ (T ls ++ crlf) := by rw [T_cons]; simp only [List.append_assoc]
    rw [e] at hn ⊢
    rcases take_line (l := l) (r := T ls ++ crlf) (n := n) h1 with h | ⟨h, h'⟩
    · exact rd_stop _ _ _ _ h
    · cases m with
      | zero => rfl
      | succ m =>
        rw [h', rd_line m i st used _ h1, if_neg hi, if_neg h2, if_pos h3]
        exact rd_front ls m (i + 1) _ _ _ (fun l hl => hall l (List.mem_cons_of_mem _ hl)) (by omega) (by simp only [List.length_append, crlf, List.length_cons, List.length_nil] at hn ⊢; omega)
/-- A whole text of lines. -/
theorem read_text {l0 : B} {ls : List B} (h0 : (13 : UInt8) ∉ l0) (hf : (firstL l0).2.2 = true) (hall : ∀ l ∈ ls, goodLine l) (more : B) :
    readR (T (l0 :: ls) ++ crlf ++ more) = .ask (ls.foldl (fun st l => takesL st (lineF l)) { rq0 with me := (firstL l0).1, pa := (firstL l0).2.1 }) (T (l0 :: ls) ++ crlf).length := by
  have e : T (l0 :: ls) ++ crlf ++ more = l0 ++ crlf ++ (T ls ++ crlf ++ more) := by rw [T_cons]; simp only [List.append_assoc]
  have hT : ls.length ≤ (T ls).length := by
    clear hall e
    induction ls with
    | nil => simp
    | cons l ls ih => rw [T_cons]; simp only [List.length_append, List.length_cons, crlf, List.length_nil]; omega
  unfold readR
  rw [e, rd_line _ _ _ _ _ h0, if_pos rfl, if_pos hf, rd_body ls _ 1 _ _ more hall (by omega) (by simp only [List.length_append, crlf, List.length_cons, List.length_nil]; omega)]
  rw [T_cons]
  congr 1
  simp only [List.length_append, crlf, List.length_cons, List.length_nil]
  omega
theorem read_front {l0 : B} {ls : List B} (h0 : (13 : UInt8) ∉ l0) (hf : (firstL l0).2.2 = true) (hall : ∀ l ∈ ls, goodLine l) {n : Nat} (hn : n < (T (l0 :: ls) ++ crlf).length) :
    readR ((T (l0 :: ls) ++ crlf).take n) = .stop := by
  have e : T (l0 :: ls) ++ crlf = l0 ++ crlf ++ (T ls ++ crlf) := by rw [T_cons]; simp only [List.append_assoc]
  rw [e] at hn ⊢
  unfold readR
  rcases take_line (l := l0) (r := T ls ++ crlf) (n := n) h0 with h | ⟨h, h'⟩
  · exact rd_stop _ _ _ _ h
  · rw [h', rd_line _ _ _ _ _ h0, if_pos rfl, if_pos hf]
    exact rd_front ls _ 1 _ _ _ hall (by omega) (by simp only [List.length_append, crlf, List.length_cons, List.length_nil] at hn ⊢; omega)
theorem join_T : ∀ (l : B) (ls : List B), Lib.join (l :: ls) crlf ++ crlf = T (l :: ls)
  | l, [] => by simp [Lib.join, T]
  | l, k :: ls => by
    have ih := join_T k ls
    rw [T_cons, ← ih]
    simp only [Lib.join, List.intercalate]
    simp [List.intersperse]
/-! ### Fields -/
theorem runL_cons {S α : Type} {f : S → α → Option S} {s a : S} {x : α} {xs : List α} (h : runL f s (x :: xs) = some a) : ∃ t, f s x = some t ∧ runL f t xs = some a := by
  simp only [runL] at h
  exact Option.bind_eq_some_iff.1 h
theorem hstep_some {st st' : Nat × List (B × B)} {f : Fld} (h : hstep st f = some st') : f.never = false ∧ ((st.1 < 4 ∧ f.name = names4.getD st.1 [] ∧ st' = (st.1 + 1, putS f.name f.value st.2)) ∨ (¬ st.1 < 4 ∧ ownLine f.name = false ∧ f.value.all text = true ∧ st' = (st.1 + 1, st.2))) := by
  unfold hstep at h
  split at h
  · cases h
  · rename_i hn
    refine ⟨by simpa using hn, ?_⟩
    split at h
    · rename_i h4
      split at h
      · rename_i he
        exact .inl ⟨h4, he, (Option.some.inj h).symm⟩
      · cases h
    · rename_i h4
      split at h
      · cases h
      · rename_i ho
        simp only [not_or, Bool.not_eq_true, Bool.not_eq_false] at ho
        exact .inr ⟨h4, ho.1, ho.2, (Option.some.inj h).symm⟩
theorem hstep_lt {st st' : Nat × List (B × B)} {f : Fld} (h : hstep st f = some st') (h4 : st.1 < 4) : f.never = false ∧ f.name = names4.getD st.1 [] ∧ st' = (st.1 + 1, putS f.name f.value st.2) := by
  rcases hstep_some h with ⟨n1, ⟨_, c1, e⟩ | ⟨c, _⟩⟩
  · exact ⟨n1, c1, e⟩
  · exact absurd h4 c
theorem heads_rest : ∀ (fs : List Fld) (i i' : Nat) (m m' : List (B × B)), 4 ≤ i → runL hstep (i, m) fs = some (i', m') → m' = m ∧ ∀ f ∈ fs, f.never = false ∧ ownLine f.name = false ∧ f.value.all text = true
  | [], i, i', m, m', _, h => by
    simp only [runL, Option.some.injEq, Prod.mk.injEq] at h
    exact ⟨h.2.symm, fun f hf => by cases hf⟩
  | f :: fs, i, i', m, m', hi, h => by
    obtain ⟨t, h1, h2⟩ := runL_cons h
    rcases hstep_some h1 with ⟨hn, ⟨h4, _, _⟩ | ⟨_, ho, ht, rfl⟩⟩
    · simp only at h4; omega
    · obtain ⟨rfl, hall⟩ := heads_rest fs (i + 1) i' m m' (by omega) h2
      refine ⟨rfl, fun g hg => ?_⟩
      rcases List.mem_cons.1 hg with rfl | hg
      · exact ⟨hn, ho, ht⟩
      · exact hall g hg
/-- The four and the others. -/
theorem heads_four {fs : List Fld} {i : Nat} {m : List (B × B)} (h : headsL fs = some (i, m)) (hok : headOk m = true) :
    ∃ me au pa rest, fs = [⟨kMethod, me, false⟩, ⟨kScheme, sHttp, false⟩, ⟨kAuth, au, false⟩, ⟨kPath, pa, false⟩] ++ rest ∧ m = [(kMethod, me), (kScheme, sHttp), (kAuth, au), (kPath, pa)] ∧ (∀ f ∈ rest, f.never = false ∧ ownLine f.name = false ∧ f.value.all text = true) := by
  unfold headsL at h
  have e1 : ∀ v, putS kMethod v [] = [(kMethod, v)] := fun v => rfl
  have e2 : ∀ v w, putS kScheme w [(kMethod, v)] = [(kMethod, v), (kScheme, w)] := fun v w => rfl
  have e3 : ∀ v w x, putS kAuth x [(kMethod, v), (kScheme, w)] = [(kMethod, v), (kScheme, w), (kAuth, x)] := fun v w x => rfl
  have e4 : ∀ v w x y, putS kPath y [(kMethod, v), (kScheme, w), (kAuth, x)] = [(kMethod, v), (kScheme, w), (kAuth, x), (kPath, y)] := fun v w x y => rfl
  cases fs with
  | nil =>
    simp only [runL, Option.some.injEq, Prod.mk.injEq] at h
    rw [← h.2] at hok
    exact absurd hok (by decide)
  | cons a fs =>
    obtain ⟨t, h1, h⟩ := runL_cons h
    obtain ⟨n1, c1, rfl⟩ := hstep_lt h1 (show (0 : Nat) < 4 by decide)
    replace c1 : a.name = kMethod := c1
    rw [c1, e1] at h
    rcases a with ⟨na, va, wa⟩
    cases c1; cases n1
    cases fs with
    | nil =>
      simp only [runL, Option.some.injEq, Prod.mk.injEq] at h
      rw [← h.2] at hok
      have : val kScheme [(kMethod, va)] = [] := rfl
      simp only [headOk, this] at hok
      simp [sHttp] at hok
    | cons b fs =>
      obtain ⟨t, h1, h⟩ := runL_cons h
      obtain ⟨n1, c1, rfl⟩ := hstep_lt h1 (show (1 : Nat) < 4 by decide)
      replace c1 : b.name = kScheme := c1
      rw [c1, e2] at h
      rcases b with ⟨nb, vb, wb⟩
      cases c1; cases n1
      cases fs with
      | nil =>
        simp only [runL, Option.some.injEq, Prod.mk.injEq] at h
        rw [← h.2] at hok
        have : val kAuth [(kMethod, va), (kScheme, vb)] = [] := rfl
        simp [headOk, this] at hok
      | cons c fs =>
        obtain ⟨t, h1, h⟩ := runL_cons h
        obtain ⟨n1, c1, rfl⟩ := hstep_lt h1 (show (2 : Nat) < 4 by decide)
        replace c1 : c.name = kAuth := c1
        rw [c1, e3] at h
        rcases c with ⟨nc, vc, wc⟩
        cases c1; cases n1
        cases fs with
        | nil =>
          simp only [runL, Option.some.injEq, Prod.mk.injEq] at h
          rw [← h.2] at hok
          have : val kPath [(kMethod, va), (kScheme, vb), (kAuth, vc)] = [] := rfl
          simp only [headOk, this] at hok
          have hp : pathOk [] = false := by decide
          rw [hp] at hok
          simp at hok
        | cons d fs =>
          obtain ⟨t, h1, h⟩ := runL_cons h
          obtain ⟨n1, c1, rfl⟩ := hstep_lt h1 (show (3 : Nat) < 4 by decide)
          replace c1 : d.name = kPath := c1
          rw [c1, e4] at h
          rcases d with ⟨nd, vd, wd⟩
          cases c1; cases n1
          obtain ⟨rfl, hr⟩ := heads_rest fs 4 i _ m (by decide) h
          have hs : vb = sHttp := by
            have : val kScheme [(kMethod, va), (kScheme, vb), (kAuth, vc), (kPath, vd)] = vb := rfl
            simp only [headOk, this, Bool.and_eq_true, decide_eq_true_eq] at hok
            exact hok.1.1.1.1
          subst hs
          exact ⟨va, vc, vd, fs, rfl, rfl, hr⟩
/-! ### What the request's fields must be -/
theorem pstep_some {st st' : List (B × B) × Bool} {f : Fld} (h : pstep st f = some st') : valueOk f.value = true ∧ ((prefixed f.name pColon = true ∧ st'.1.length = st.1.length + 1) ∨ (st'.1 = st.1 ∧ nameOk f.name = true ∧ barred f.name = false)) := by
  unfold pstep at h
  split at h
  · cases h
  · rename_i hv
    refine ⟨by simpa using hv, ?_⟩
    split at h
    · rename_i hp
      split at h
      · cases h
      · rename_i hg
        simp only [not_or, Bool.not_eq_true] at hg
        obtain rfl := Option.some.inj h
        refine .inl ⟨hp, ?_⟩
        simp only [putS_length, hg.1]
        rfl
    · split at h
      · cases h
      · rename_i hb
        simp only [not_or, Bool.not_eq_true, Bool.not_eq_false] at hb
        obtain rfl := Option.some.inj h
        exact .inr ⟨rfl, hb.1, hb.2.1⟩
theorem pseudo_len : ∀ (fs : List Fld) (st st' : List (B × B) × Bool), runL pstep st fs = some st' → st.1.length ≤ st'.1.length ∧ (∀ f ∈ fs, valueOk f.value = true) ∧ (st'.1.length = st.1.length → ∀ f ∈ fs, nameOk f.name = true ∧ barred f.name = false)
  | [], st, st', h => by
    simp only [runL, Option.some.injEq] at h
    subst h
    exact ⟨Nat.le_refl _, fun f hf => (by cases hf), fun _ f hf => (by cases hf)⟩
  | f :: fs, st, st', h => by
    obtain ⟨t, h1, h2⟩ := runL_cons h
    obtain ⟨a, b, c⟩ := pseudo_len fs t st' h2
    obtain ⟨hv, hq⟩ := pstep_some h1
    refine ⟨?_, fun g hg => ?_, fun e g hg => ?_⟩
    · rcases hq with ⟨_, e⟩ | ⟨e, _⟩
      · omega
      · rw [e] at a; exact a
    · rcases List.mem_cons.1 hg with rfl | hg
      · exact hv
      · exact b g hg
    · rcases hq with ⟨_, e1⟩ | ⟨e1, e2, e3⟩
      · omega
      · rcases List.mem_cons.1 hg with rfl | hg
        · exact ⟨e2, e3⟩
        · exact c (by rw [e1]; exact e) g hg
end Go.Proofs.YtamplhegepgaeaaDoor
end
section
/- The plain law, part 3: what is asked is read. -/
open Go Go.LZ
namespace Go.Proofs.YtamplhegepgaeaaDoor
set_option linter.unusedSimpArgs false
set_option linter.unusedVariables false
set_option maxRecDepth 100000
/-! ### Bytes -/
theorem forall_byte {P : UInt8 → Prop} (h : ∀ n : Fin 256, P (UInt8.ofNat n.val)) (c : UInt8) : P c := by
  have := h ⟨c.toNat, c.toNat_lt⟩
  simpa using this
theorem not_mem_all {p : UInt8 → Bool} {l : B} {c : UInt8} (h : l.all p = true) (hc : p c = false) : c ∉ l := fun hm => by
  have := List.all_eq_true.1 h c hm
  rw [hc] at this
  cases this
theorem nameByte_same : ∀ c : UInt8, nameByte c = true → smallC c = c := forall_byte (by decide)
theorem graph_text (c : UInt8) (h : graph c = true) : text c = true := by
  simp only [graph, text, Bool.and_eq_true, Bool.or_eq_true, decide_eq_true_eq] at *
  omega
theorem all_mono {p q : UInt8 → Bool} (hpq : ∀ c, p c = true → q c = true) {l : B} (h : l.all p = true) : l.all q = true := by
  rw [List.all_eq_true] at *
  exact fun c hc => hpq c (h c hc)
theorem graph_ctl : ∀ c : UInt8, graph c = true → isCtl c = false := forall_byte (by decide)
theorem graph_blank : ∀ c : UInt8, graph c = true → blank c = false := forall_byte (by decide)
theorem valueOk_graph {v : B} (h : v.all graph = true) (hl : v.length ≤ 65536) : valueOk v = true := by
  have hg := List.all_eq_true.1 h
  simp only [valueOk, Bool.and_eq_true, Bool.or_eq_true, decide_eq_true_eq, Bool.not_eq_true']
  refine ⟨⟨hl, ?_⟩, ?_⟩
  · rw [List.any_eq_false]
    exact fun c hc => by rw [graph_ctl c (hg c hc)]; decide
  · cases v with
    | nil => exact .inl rfl
    | cons x v =>
      right
      refine ⟨graph_blank _ (hg _ (by simp)), graph_blank _ (hg _ ?_)⟩
      rw [List.getD_eq_getElem?_getD, List.getElem?_eq_getElem (by simp)]
      exact List.getElem_mem _
theorem trim_of {v : B} (h : valueOk v = true) : Lib.trimLeftB (32 :: v) 32 = v := by
  unfold Lib.trimLeftB
  rw [List.dropWhile_cons_of_pos (by decide)]
  cases v with
  | nil => rfl
  | cons x v =>
    simp only [valueOk, Bool.and_eq_true, Bool.or_eq_true, decide_eq_true_eq, Bool.not_eq_true'] at h
    rcases h.2 with h | ⟨h, _⟩
    · cases h
    · rw [List.dropWhile_cons_of_neg]
      intro hx
      have hx' : x = 32 := by simpa using hx
      subst hx'
      exact absurd (show blank 32 = false from h) (by decide)
theorem text13 : text 13 = false := by decide
theorem line_of {n v : B} (h58 : (58 : UInt8) ∉ n) (h13 : (13 : UInt8) ∉ n) (hn : nameOk (n.map smallC) = true) (hv : valueOk v = true) (ht : v.all text = true) :
    goodLine (n ++ [58, 32] ++ v) ∧ lineF (n ++ [58, 32] ++ v) = ⟨n.map smallC, v, false⟩ := by
  have e : n ++ [58, 32] ++ v = n ++ 58 :: (32 :: v) := by simp
  rw [e]
  have hc := cut_byte (r := 32 :: v) h58
  have hF : lineF (n ++ 58 :: (32 :: v)) = ⟨n.map smallC, v, false⟩ := by
    simp only [lineF, hc, trim_of hv]
  refine ⟨⟨?_, by simp, ?_⟩, hF⟩
  · have := not_mem_all ht text13
    simp only [List.mem_append, List.mem_cons, not_or]
    exact ⟨h13, by decide, by decide, this⟩
  · simp only [lineOk, hF, hc, hn, hv, ht]
    decide
theorem nameOk_all {n : B} (h : nameOk n = true) : n.all nameByte = true := by
  simp only [nameOk, Bool.and_eq_true] at h
  exact h.2
theorem name_same {n : B} (h : nameOk n = true) : n.map smallC = n := by
  have := List.all_eq_true.1 (nameOk_all h)
  rw [List.map_congr_left (g := id) fun c hc => nameByte_same c (this c hc)]
  simp
theorem fline_of {f : Fld} (h0 : f.never = false) (hn : nameOk f.name = true) (hv : valueOk f.value = true) (ht : f.value.all text = true) : goodLine (fline f) ∧ lineF (fline f) = f := by
  have ha := nameOk_all hn
  have := line_of (not_mem_all ha (by decide)) (not_mem_all ha (by decide)) (by rw [name_same hn]; exact hn) hv ht
  rw [name_same hn] at this
  rcases f with ⟨a, b, c⟩
  cases h0
  exact this
/-! ### Letters are graphs -/
theorem letter_graph : ∀ n : Fin 64, graph (letter n.val) = true := by decide
theorem emit_graph (w : Nat) : ∀ b, (emit w b).all graph = true := by
  intro b
  induction b using Nat.strongRecOn with
  | _ b ih =>
    by_cases h : 6 ≤ b
    · rw [emit_ge h, List.all_cons, ih (b - 6) (by omega), letter_graph ⟨_, Nat.mod_lt _ (by decide)⟩]
      rfl
    · rw [emit_lt (by omega)]; rfl
theorem codeR_graph : ∀ (bs : B) (st : B × Nat × Nat), st.1.all graph = true → (bs.foldl cstep st).1.all graph = true
  | [], st, h => h
  | c :: bs, st, h => codeR_graph bs _ (by simp only [cstep, List.all_append, h, emit_graph, Bool.and_self])
theorem codeL_graph (bs : B) : (codeL bs).all graph = true := by
  have := codeR_graph bs ([], 0, 0) rfl
  unfold codeL codeE codeR
  split
  · rw [List.all_append, this, List.all_cons, letter_graph ⟨_, Nat.mod_lt _ (by decide)⟩]
    rfl
  · exact this
/-! ### The lines of a request -/
def wHost : B := [72, 111, 115, 116]
def wConn : B := [67, 111, 110, 110, 101, 99, 116, 105, 111, 110]
def wUpg : B := [85, 112, 103, 114, 97, 100, 101]
def wSet : B := [72, 84, 84, 80, 50, 45, 83, 101, 116, 116, 105, 110, 103, 115]
theorem first_of {me pa : B} (h1 : methodOk me = true) (h2 : pathOk pa = true) : (13 : UInt8) ∉ me ++ [32] ++ pa ++ sHttp1 ∧ firstL (me ++ [32] ++ pa ++ sHttp1) = (me, pa, true) := by
  have hm : me.all great = true := by simp only [methodOk, Bool.and_eq_true] at h1; exact h1.2
  have hp : pa.all graph = true := by simp only [pathOk, Bool.and_eq_true] at h2; exact h2.2
  have e : me ++ [32] ++ pa ++ sHttp1 = me ++ 32 :: (pa ++ 32 :: sHttp11) := by simp [sHttp1, sHttp11]
  rw [e]
  have c1 := cut_byte (r := pa ++ 32 :: sHttp11) (not_mem_all hm (c := 32) (by decide))
  have c2 := cut_byte (r := sHttp11) (not_mem_all hp (c := 32) (by decide))
  refine ⟨?_, ?_⟩
  · have a1 := not_mem_all hm (c := 13) (by decide)
    have a2 := not_mem_all hp (c := 13) (by decide)
    simp only [List.mem_append, List.mem_cons, not_or]
    exact ⟨a1, by decide, a2, by decide, by decide⟩
  · simp [firstL, c1, c2, h1, h2]
theorem notin_four {s : B} (h : ownLine s = false) (hb : barred s = false) : s ∉ four ∧ s ∉ none4 := by
  refine ⟨fun hm => ?_, fun hm => ?_⟩
  · simp only [four, List.mem_cons, List.not_mem_nil, or_false] at hm
    rcases hm with rfl | rfl | rfl | rfl <;> first | exact absurd h (by decide) | exact absurd hb (by decide)
  · simp only [none4, List.mem_cons, List.not_mem_nil, or_false] at hm
    rcases hm with rfl | rfl | rfl | rfl <;> first | exact absurd h (by decide) | exact absurd hb (by decide)
theorem takes_rest : ∀ (rest : List Fld) (st : Rq), (∀ f ∈ rest, lineF (fline f) = f ∧ f.name ∉ four ∧ f.name ∉ none4) → (rest.map fline).foldl (fun st l => takesL st (lineF l)) st = { st with fs := st.fs ++ rest }
  | [], st, _ => by simp
  | f :: rest, st, h => by
    obtain ⟨e, h1, h2⟩ := h f (List.mem_cons_self ..)
    rw [List.map_cons, List.foldl_cons, e, takes_rest rest _ fun g hg => h g (List.mem_cons_of_mem _ hg)]
    unfold takesL
    rw [if_neg h1, if_neg h2]
    simp
def st4 (me pa au code : B) : Rq := ⟨me, pa, [], [(nHost, au), (nConn, sHow), (nUpg, sH2c), (nSet, code)], false⟩
theorem takes_four (me pa au code : B) : takesL (takesL (takesL (takesL { rq0 with me := me, pa := pa } ⟨nHost, au, false⟩) ⟨nConn, sHow, false⟩) ⟨nUpg, sH2c, false⟩) ⟨nSet, code, false⟩ = st4 me pa au code := by
  rfl
theorem T_mem : ∀ {ls : List B} {l : B}, l ∈ ls → l.length + 2 ≤ (T ls).length
  | k :: ls, l, h => by
    rw [T_cons]
    simp only [List.length_append, crlf, List.length_cons, List.length_nil]
    rcases List.mem_cons.1 h with rfl | h
    · omega
    · have := T_mem h
      omega
/-! ### The law -/
theorem law_back {fs : List Fld} {ss : List Stg} {b : B} (h : askL fs ss = .ok b) : (∀ more : B, more.length ≤ 1000 → readL (b ++ more) = .ok fs ss b.length) ∧ ∀ n, n < b.length → readL (b.take n) = .no 3 := by
  have hq : requestOk fs = true ∧ ∃ i m, headsL fs = some (i, m) ∧ headOk m = true ∧ ss.all setOk = true ∧ (askT fs ss m).length ≤ 16384 ∧ b = askT fs ss m := by
    unfold askL at h
    split at h
    · cases h
    · rename_i hr
      refine ⟨by simpa using hr, ?_⟩
      split at h
      · cases h
      · rename_i i m hm
        refine ⟨i, m, hm, ?_⟩
        split at h
        · cases h
        · rename_i ho
          split at h
          · cases h
          · rename_i hs
            split at h
            · cases h
            · cases h
              exact ⟨by simpa using ho, by simpa using hs, by omega, rfl⟩
  obtain ⟨hreq, i, m, hm, hok, hset, hlen, rfl⟩ := hq
  obtain ⟨me, au, pa, rest, hfs, hme, hrest⟩ := heads_four hm hok
  subst hme
  have hk : methodOk me = true ∧ au ≠ [] ∧ au.all graph = true ∧ pathOk pa = true := by
    have v1 : val kMethod [(kMethod, me), (kScheme, sHttp), (kAuth, au), (kPath, pa)] = me := rfl
    have v3 : val kAuth [(kMethod, me), (kScheme, sHttp), (kAuth, au), (kPath, pa)] = au := rfl
    have v4 : val kPath [(kMethod, me), (kScheme, sHttp), (kAuth, au), (kPath, pa)] = pa := rfl
    simp only [headOk, v1, v3, v4, Bool.and_eq_true, decide_eq_true_eq] at hok
    exact ⟨hok.1.2, hok.1.1.1.2, hok.1.1.2, hok.2⟩
  obtain ⟨k1, k2, k3, k4⟩ := hk
  -- the pseudo fields
  have hps : (∀ f ∈ rest, valueOk f.value = true) ∧ ∀ f ∈ rest, nameOk f.name = true ∧ barred f.name = false := by
    have hr := hreq
    unfold requestOk at hr
    split at hr
    · cases hr
    · rename_i pm reg hp
      unfold pseudoL at hp
      rw [hfs] at hp
      obtain ⟨t1, a1, hp⟩ := runL_cons hp
      obtain ⟨t2, a2, hp⟩ := runL_cons hp
      obtain ⟨t3, a3, hp⟩ := runL_cons hp
      obtain ⟨t4, a4, hp⟩ := runL_cons hp
      have hlenT : ∀ {st st' : List (B × B) × Bool} {n v : B}, prefixed n pColon = true → nameOk n = false → pstep st ⟨n, v, false⟩ = some st' → st'.1.length = st.1.length + 1 := by
        intro st st' n v h1 h2 h3
        rcases (pstep_some h3).2 with ⟨_, e⟩ | ⟨_, e, _⟩
        · exact e
        · rw [h2] at e; cases e
      have l1 := hlenT (by decide) (by decide) a1
      have l2 := hlenT (by decide) (by decide) a2
      have l3 := hlenT (by decide) (by decide) a3
      have l4 := hlenT (by decide) (by decide) a4
      obtain ⟨p1, p2, p3⟩ := pseudo_len rest t4 _ hp
      refine ⟨p2, p3 ?_⟩
      have hl4 : t4.1.length = 4 := by rw [l4, l3, l2, l1]; rfl
      simp only [reqM, Bool.and_eq_true, decide_eq_true_eq] at hr
      have := hr.1.2
      simp only at p1 ⊢
      split at this <;> omega
  have hvau : valueOk au = true ∧ True := by
    refine ⟨?_, trivial⟩
    have hr := hreq
    unfold requestOk at hr
    split at hr
    · cases hr
    · rename_i pm reg hp
      unfold pseudoL at hp
      exact (pseudo_len fs _ _ hp).2.1 ⟨kAuth, au, false⟩ (by rw [hfs]; simp)
  have hrl : ∀ f ∈ rest, goodLine (fline f) ∧ lineF (fline f) = f := fun f hf => fline_of (hrest f hf).1 (hps.2 f hf).1 (hps.1 f hf) (hrest f hf).2.2
  have h3 : (ss.flatMap setB).length % 3 = 0 := by rw [setsB_length]; omega
  have h6 : (ss.flatMap setB).length % 6 = 0 := by rw [setsB_length]; omega
  have hdrop : fs.drop 4 = rest := by rw [hfs]; rfl
  have hv1 : lines5 [(kMethod, me), (kScheme, sHttp), (kAuth, au), (kPath, pa)] ss = [me ++ [32] ++ pa ++ sHttp1, wHost ++ [58, 32] ++ au, wConn ++ [58, 32] ++ sHow, wUpg ++ [58, 32] ++ sH2c, wSet ++ [58, 32] ++ codeL (ss.flatMap setB)] := rfl
  have hT : askT fs ss [(kMethod, me), (kScheme, sHttp), (kAuth, au), (kPath, pa)] = T ((me ++ [32] ++ pa ++ sHttp1) :: ([wHost ++ [58, 32] ++ au, wConn ++ [58, 32] ++ sHow, wUpg ++ [58, 32] ++ sH2c, wSet ++ [58, 32] ++ codeL (ss.flatMap setB)] ++ rest.map fline)) ++ crlf := by
    unfold askT
    rw [hdrop, hv1, ← join_T]
    rfl
  rw [hT] at hlen ⊢
  have hcl : (codeL (ss.flatMap setB)).length ≤ 65536 := by
    have := T_mem (ls := (me ++ [32] ++ pa ++ sHttp1) :: ([wHost ++ [58, 32] ++ au, wConn ++ [58, 32] ++ sHow, wUpg ++ [58, 32] ++ sH2c, wSet ++ [58, 32] ++ codeL (ss.flatMap setB)] ++ rest.map fline)) (l := wSet ++ [58, 32] ++ codeL (ss.flatMap setB)) (by simp)
    simp only [List.length_append] at this hlen
    omega
  have g1 := line_of (n := wHost) (v := au) (by decide) (by decide) (by decide) hvau.1 (all_mono graph_text k3)
  have g2 := line_of (n := wConn) (v := sHow) (by decide) (by decide) (by decide) (by decide) (by decide)
  have g3 := line_of (n := wUpg) (v := sH2c) (by decide) (by decide) (by decide) (by decide) (by decide)
  have g4 := line_of (n := wSet) (v := codeL (ss.flatMap setB)) (by decide) (by decide) (by decide) (valueOk_graph (codeL_graph _) hcl) (all_mono graph_text (codeL_graph _))
  have hall : ∀ l ∈ [wHost ++ [58, 32] ++ au, wConn ++ [58, 32] ++ sHow, wUpg ++ [58, 32] ++ sH2c, wSet ++ [58, 32] ++ codeL (ss.flatMap setB)] ++ rest.map fline, goodLine l := by
    intro l hl
    rcases List.mem_append.1 hl with hl | hl
    · simp only [List.mem_cons, List.not_mem_nil, or_false] at hl
      rcases hl with rfl | rfl | rfl | rfl
      · exact g1.1
      · exact g2.1
      · exact g3.1
      · exact g4.1
    · obtain ⟨f, hf, rfl⟩ := List.mem_map.1 hl
      exact (hrl f hf).1
  obtain ⟨f13, hfirst⟩ := first_of k1 k4
  have hf2 : (firstL (me ++ [32] ++ pa ++ sHttp1)).2.2 = true := by rw [hfirst]
  refine ⟨fun more hmore => ?_, fun n hn => ?_⟩
  · have hrd := read_text f13 hf2 hall more
    rw [hfirst] at hrd
    have e4 : ([wHost ++ [58, 32] ++ au, wConn ++ [58, 32] ++ sHow, wUpg ++ [58, 32] ++ sH2c, wSet ++ [58, 32] ++ codeL (ss.flatMap setB)] ++ rest.map fline).foldl (fun st l => takesL st (lineF l)) { rq0 with me := me, pa := pa } = { st4 me pa au (codeL (ss.flatMap setB)) with fs := rest } := by
      rw [List.foldl_append]
      simp only [List.foldl_cons, List.foldl_nil]
      rw [g1.2, g2.2, g3.2, g4.2]
      have w1 : wHost.map smallC = nHost := by decide
      have w2 : wConn.map smallC = nConn := by decide
      have w3 : wUpg.map smallC = nUpg := by decide
      have w4 : wSet.map smallC = nSet := by decide
      rw [w1, w2, w3, w4, takes_four, takes_rest rest _ fun f hf => ⟨(hrl f hf).2, notin_four (hrest f hf).2.1 (hps.2 f hf).2⟩]
      simp [st4]
    rw [e4] at hrd
    unfold readL
    rw [hrd]
    have hF : askedF { st4 me pa au (codeL (ss.flatMap setB)) with fs := rest } = fs := by rw [hfs]; rfl
    have hask : askedL { st4 me pa au (codeL (ss.flatMap setB)) with fs := rest } (T ((me ++ [32] ++ pa ++ sHttp1) :: ([wHost ++ [58, 32] ++ au, wConn ++ [58, 32] ++ sHow, wUpg ++ [58, 32] ++ sH2c, wSet ++ [58, 32] ++ codeL (ss.flatMap setB)] ++ rest.map fline)) ++ crlf).length = .ok fs ss (T ((me ++ [32] ++ pa ++ sHttp1) :: ([wHost ++ [58, 32] ++ au, wConn ++ [58, 32] ++ sHow, wUpg ++ [58, 32] ++ sH2c, wSet ++ [58, 32] ++ codeL (ss.flatMap setB)] ++ rest.map fline)) ++ crlf).length := by
      have vS : val nSet [(nHost, au), (nConn, sHow), (nUpg, sH2c), (nSet, codeL (ss.flatMap setB))] = codeL (ss.flatMap setB) := rfl
      unfold askedL
      rw [show val nSet (Rq.m { st4 me pa au (codeL (ss.flatMap setB)) with fs := rest }) = codeL (ss.flatMap setB) from rfl, decode_code h3]
      simp only
      rw [if_neg, hF, if_neg (by rw [hreq]; decide), sets_back hset]
      rintro (c | c | c | c | c | c | c | c)
      · cases c
      · have : (getS nSet [(nHost, au), (nConn, sHow), (nUpg, sH2c), (nSet, codeL (ss.flatMap setB))]).isSome = true := rfl
        exact absurd (this.symm.trans c) (by decide)
      · exact c h6
      · exact k2 c
      · exact absurd (k3.symm.trans c) (by decide)
      · exact c rfl
      · exact c rfl
      · omega
    simp only [hask]
  · have hrd := read_front f13 hf2 hall hn
    unfold readL
    rw [hrd]
    simp only
    rw [if_neg]
    rw [List.length_take]
    omega
end Go.Proofs.YtamplhegepgaeaaDoor
end

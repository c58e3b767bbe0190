/- A part of the proof: an abstract machine, mirrors and their laws, one text behind the other. -/
import Derived.Test.YtlndkggjgacclaaDoorVE4
/- The program's first layer: numbers in bytes, the reader, what is within, what all are. -/
set_option linter.unusedVariables false
set_option maxRecDepth 100000
namespace Go.Vm
/-- A number out of bytes, the higher ones first. -/
def numB (l : List UInt8) : Nat := l.foldl (fun n c => n * 256 + c.toNat) 0
theorem numB_foldl (l : List UInt8) : ∀ n, l.foldl (fun n c => n * 256 + c.toNat) n = n * 256 ^ l.length + numB l := by
  unfold numB
  induction l with
  | nil => intro n; simp
  | cons c l ih =>
    intro n
    simp only [List.foldl_cons, List.length_cons]
    rw [ih, ih (0 * 256 + c.toNat), Nat.pow_succ, Nat.add_mul, Nat.zero_mul, Nat.zero_add, Nat.mul_assoc, Nat.mul_comm 256, Nat.add_assoc]
theorem numB_lt (l : List UInt8) : numB l < 256 ^ l.length := by
  induction l with
  | nil => simp [numB]
  | cons c l ih =>
    have h := numB_foldl l (0 * 256 + c.toNat)
    have e : numB (c :: l) = l.foldl (fun n c => n * 256 + c.toNat) (0 * 256 + c.toNat) := rfl
    rw [e, h, List.length_cons, Nat.pow_succ]
    have := c.toNat_lt
    have h2 : (0 * 256 + c.toNat) * 256 ^ l.length + 256 ^ l.length ≤ 256 * 256 ^ l.length := by
      rw [← Nat.succ_mul]; exact Nat.mul_le_mul_right _ (by omega)
    rw [Nat.mul_comm (256 ^ l.length)]
    omega
theorem or_byte (n : Nat) (c : UInt8) (h : n < 36028797018963968) : wi (orB 64 ((n : Int) * 2 ^ 8) (c.toNat : Int)) = ((n * 256 + c.toNat : Nat) : Int) := by
  have hc := c.toNat_lt
  rw [show ((n : Int) * 2 ^ 8) = ((n * 256 : Nat) : Int) from rfl]
  unfold orB
  have e2 : (BitVec.ofInt 64 ((n * 256 : Nat) : Int) ||| BitVec.ofInt 64 (c.toNat : Int)).toNat = n * 256 + c.toNat := by
    rw [BitVec.toNat_or]
    simp only [BitVec.ofInt_natCast, BitVec.toNat_ofNat]
    rw [Nat.mod_eq_of_lt (by omega), Nat.mod_eq_of_lt (by omega), Nat.mul_comm n 256]
    exact (Nat.two_pow_add_eq_or_of_lt (i := 8) hc n).symm
  rw [e2, wi_of] <;> omega
theorem number_l3 (N : Nat) : ∀ (n : Nat) (m k : Nat) (b : List UInt8) (f : Bool) (c : List UInt8), c.length ≤ k + n - 1 → 0 < n → k ≤ c.length → c.length ≤ 7 → m < 256 ^ k →
    g_av.l3 N n (c.length : Int) (m : Int) (k : Int) b f c = some ((((c.drop k).foldl (fun n c => n * 256 + c.toNat) m : Nat) : Int), b, f)
  | 0, _, _, _, _, _, _, h, _, _, _ => by omega
  | n + 1, m, k, b, f, c, hn, _, hk, hc, hm => by
    unfold g_av.l3
    by_cases h : k < c.length
    · have hm2 : m < 36028797018963968 := Nat.lt_of_lt_of_le hm (Nat.le_trans (Nat.pow_le_pow_right (by omega) (show k ≤ 6 by omega)) (by decide))
      simp (disch := omega) only [dec_t, cond_true, gd_true, Int.toNat_natCast, get_t, Option.bind_some, bind_id, nc1, wi_u8, wi_of, or_byte m _ hm2]
      rw [number_l3 N n _ (k + 1) b f c (by omega) (by omega) (by omega) hc (by
        have := c[k].toNat_lt
        rw [Nat.pow_succ]; omega), drop_get h]
      rfl
    · simp (disch := omega) only [dec_t, dec_f, cond_false, gd_true, Int.toNat_natCast, bind_id, nc1, wi_u8, wi_of, List.drop_of_length_le, List.foldl_nil]
/-- What is taken, and what is left. -/
def tkR (r : List UInt8 × Bool) (n : Nat) : (List UInt8 × Bool) × List UInt8 := if r.1.length < n then ((r.1, true), []) else ((r.1.drop n, r.2), r.1.take n)
theorem take_eq (N : Nat) (r : List UInt8 × Bool) (n : Nat) : g_aw N r (n : Int) = some (tkR r n) := by
  unfold g_aw tkR
  by_cases h : r.1.length < n
  · simp (disch := omega) only [dec_t, dec_f, cond_true, gd_true, Bool.and_true, Bool.true_and, Int.toNat_natCast, h, if_true]
  · simp (disch := omega) only [dec_t, dec_f, cond_false, gd_true, Bool.and_self, Int.toNat_natCast, h, if_false, List.take_length, List.drop_zero]
theorem number_eq {N : Nat} (hN : 18446744073709551616 ≤ N) (r : List UInt8 × Bool) (n : Nat) (hn : n ≤ 7) : g_av N r (n : Int) = some ((tkR r n).1, ((numB (tkR r n).2 : Nat) : Int)) := by
  unfold g_av
  rw [take_eq, Option.bind_some]
  have hl : (tkR r n).2.length ≤ 7 := by
    unfold tkR; split
    · simp
    · simp; omega
  rw [show (0 : Int) = ((0 : Nat) : Int) from rfl, number_l3 N N 0 0 _ _ _ (by omega) (by omega) (by omega) hl (by simp)]
  rfl
theorem within_eq (N : Nat) (x a b : Int) : g_ax N x a b = some (decide (a ≤ x) && decide (x ≤ b)) := by
  unfold g_ax
  by_cases h : a ≤ x <;> simp [h]
theorem l01In_eq (N : Nat) (x a b : Int) : g_ce N x a b = some (decide (a ≤ x) && decide (x ≤ b)) := by
  unfold g_ce
  by_cases h : a ≤ x <;> simp [h]
end Go.Vm
/- Files: texts in order; pieces between slashes; names; paths; parents. -/
set_option linter.unusedVariables false
set_option maxRecDepth 100000
namespace Go.Vm
abbrev FileT := List UInt8 × Bool × List UInt8
/-! ### Order -/
theorem cmp_neg : ∀ a b : List UInt8, decide (Lib.compareBytes a b < 0) = Op.bytesLess a b
  | [], [] => rfl
  | [], _ :: _ => rfl
  | _ :: _, [] => rfl
  | a :: x, b :: y => by
    unfold Lib.compareBytes Op.bytesLess
    by_cases h1 : a < b
    · simp [h1]
    · by_cases h2 : b < a
      · have : ¬ a = b := fun e => h1 (by rw [e] at h2 ⊢; exact h2)
        simp [h1, h2, this]
      · have : a = b := UInt8.toNat_inj.1 (by rw [UInt8.lt_iff_toNat_lt] at h1 h2; omega)
        subst this
        simp [h1, ← cmp_neg x y]
theorem cmp_zero : ∀ a b : List UInt8, (Lib.compareBytes a b == 0) = decide (a = b)
  | [], [] => rfl
  | [], _ :: _ => rfl
  | _ :: _, [] => rfl
  | a :: x, b :: y => by
    unfold Lib.compareBytes
    by_cases h1 : a < b
    · have : ¬ a = b := fun e => by subst e; rw [UInt8.lt_iff_toNat_lt] at h1; omega
      simp [h1, this]
    · by_cases h2 : b < a
      · have : ¬ a = b := fun e => h1 (by rw [e] at h2 ⊢; exact h2)
        simp [h1, h2, this]
      · have : a = b := UInt8.toNat_inj.1 (by rw [UInt8.lt_iff_toNat_lt] at h1 h2; omega)
        subst this
        have ih := cmp_zero x y
        simp [h1] at ih ⊢
        exact ih
theorem less_irrefl : ∀ a : List UInt8, Op.bytesLess a a = false
  | [] => rfl
  | a :: x => by
    have : ¬ a < a := by rw [UInt8.lt_iff_toNat_lt]; omega
    simp [Op.bytesLess, this, less_irrefl x]
theorem less_trans : ∀ {a b c : List UInt8}, Op.bytesLess a b = true → Op.bytesLess b c = true → Op.bytesLess a c = true
  | [], _, _ :: _, _, _ => rfl
  | _, [], _, h, _ => by simp [Op.bytesLess] at h
  | _, _ :: _, [], _, h => by cases h
  | a :: x, b :: y, c :: z, h1, h2 => by
    simp only [Op.bytesLess, Bool.or_eq_true, Bool.and_eq_true, decide_eq_true_eq, beq_iff_eq, UInt8.lt_iff_toNat_lt] at h1 h2 ⊢
    rcases h1 with h1 | ⟨h1, k1⟩ <;> rcases h2 with h2 | ⟨h2, k2⟩
    · left; omega
    · left; rw [← h2]; exact h1
    · left; rw [h1]; exact h2
    · right; exact ⟨h1.trans h2, less_trans k1 k2⟩
theorem less_or : ∀ a b : List UInt8, (Op.bytesLess a b || a == b) = !Op.bytesLess b a
  | [], [] => rfl
  | [], _ :: _ => rfl
  | _ :: _, [] => rfl
  | a :: x, b :: y => by
    have ih := less_or x y
    unfold Op.bytesLess
    by_cases h1 : a < b
    · have h2 : ¬ b < a := by rw [UInt8.lt_iff_toNat_lt] at h1 ⊢; omega
      have : ¬ b = a := fun e => by subst e; exact h2 h1
      simp [h1, h2, this]
    · by_cases h2 : b < a
      · have : ¬ a = b := fun e => h1 (by rw [e] at h2 ⊢; exact h2)
        simp [h1, h2, this]
      · have : a = b := UInt8.toNat_inj.1 (by rw [UInt8.lt_iff_toNat_lt] at h1 h2; omega)
        subst this
        simpa [h1] using ih
/-! ### Pieces between slashes -/
def splA (c : UInt8) : List UInt8 → List UInt8 → List (List UInt8)
  | cur, [] => [cur]
  | cur, x :: xs => bif x == c then cur :: splA c [] xs else splA c (cur ++ [x]) xs
theorem splA_cons (c : UInt8) (cur : List UInt8) (x : UInt8) (xs : List UInt8) : splA c cur (x :: xs) = bif x == c then cur :: splA c [] xs else splA c (cur ++ [x]) xs := rfl
theorem splA_len (c : UInt8) : ∀ (s cur : List UInt8), (splA c cur s).length = s.count c + 1
  | [], _ => rfl
  | x :: xs, cur => by
    unfold splA
    by_cases h : x = c
    · subst h; simp [splA_len x xs]
    · have : (x == c) = false := by simp [h]
      rw [this, cond_false, splA_len c xs, List.count_cons_of_ne h]
theorem splA_mem (c : UInt8) : ∀ (s cur : List UInt8), ∀ p ∈ splA c cur s, p.length ≤ cur.length + s.length
  | [], cur, p, h => by simp [splA] at h; simp [h]
  | x :: xs, cur, p, h => by
    unfold splA at h
    by_cases hc : x == c
    · rw [hc, cond_true, List.mem_cons] at h
      rcases h with h | h
      · simp [h]
      · have := splA_mem c xs [] p h; simp at this ⊢; omega
    · rw [Bool.not_eq_true] at hc
      rw [hc, cond_false] at h
      have := splA_mem c xs _ p h; simp at this ⊢; omega
theorem idx_split (c : UInt8) : ∀ (s cur : List UInt8), 0 < s.count c → ∃ o : Nat, Lib.indexByte s c = (o : Int) ∧ o < s.length ∧ splA c cur s = (cur ++ s.take o) :: splA c [] (s.drop (o + 1)) ∧ (s.drop (o + 1)).count c + 1 = s.count c
  | [], _, h => by simp at h
  | x :: xs, cur, h => by
    by_cases hc : x = c
    · subst hc
      exact ⟨0, by simp [Lib.indexByte], by simp, by simp [splA], by simp⟩
    · rw [List.count_cons_of_ne hc] at h
      obtain ⟨o, e1, e2, e3, e4⟩ := idx_split c xs (cur ++ [x]) h
      have hb : (x == c) = false := by simp [hc]
      refine ⟨o + 1, ?_, by simp; omega, ?_, ?_⟩
      · unfold Lib.indexByte
        rw [hb, e1]
        have : ((o : Int) == -1) = false := beq_fi (by omega)
        simp [this]
      · rw [splA_cons, hb, cond_false, e3]; simp
      · rw [List.drop_succ_cons, List.count_cons_of_ne hc, e4]
theorem splA_none (c : UInt8) : ∀ (s cur : List UInt8), s.count c = 0 → splA c cur s = [cur ++ s]
  | [], cur, _ => by simp [splA]
  | x :: xs, cur, h => by
    by_cases hc : x = c
    · subst hc; simp at h
    · rw [List.count_cons_of_ne hc] at h
      have hb : (x == c) = false := by simp [hc]
      unfold splA
      rw [hb, cond_false, splA_none c xs _ h]; simp
theorem take_drop_succ {α : Type} (c : List α) (m k : Nat) (hm : m ≤ k) (hk : k < c.length) : (c.take (k + 1)).drop m = (c.take k).drop m ++ [c[k]] := by
  rw [List.take_add_one, List.drop_append_of_le_length (by simp; omega), List.getElem?_eq_getElem hk]; rfl
theorem l00Cut_l4 (N : Nat) : ∀ (n : Nat) (c : List UInt8) (m k : Nat) (acc : List (List UInt8)), c.length ≤ k + n - 1 → 0 < n → m ≤ k → k ≤ c.length → c.length ≤ 1000000 → acc.length ≤ k →
    ∃ (m' : Nat) (acc' : List (List UInt8)), g_br.l4 N n c 47 (m : Int) (k : Int) acc = some ((m' : Int), acc') ∧ m' ≤ c.length ∧ acc'.length ≤ c.length ∧ acc' ++ [c.drop m'] = acc ++ splA 47 ((c.take k).drop m) (c.drop k)
  | 0, _, _, _, _, _, h, _, _, _, _ => by omega
  | n + 1, c, m, k, acc, hn, _, hm, hk, hc, ha => by
    unfold g_br.l4
    by_cases h : k < c.length
    · simp (disch := omega) only [dec_t, cond_true, gd_true, Bool.and_self, Int.toNat_natCast, Option.bind_some, bind_id, nc1, wi_of, room_t, List.length_cons, List.length_nil, List.getElem?_eq_getElem h]
      by_cases q : c[k] = 47
      · have e : ((c[k].toNat : Int) == ((47 : UInt8).toNat : Int)) = true := by rw [q]; rfl
        simp (disch := omega) only [cond_true, e]
        obtain ⟨m', acc', e1, e2, e3, e4⟩ := l00Cut_l4 N n c (k + 1) (k + 1) (acc ++ [(c.take k).drop m]) (by omega) (by omega) (by omega) (by omega) hc (by simp; omega)
        refine ⟨m', acc', e1, e2, e3, e4.trans ?_⟩
        rw [drop_get h, splA, q]
        simp
      · have e : ((c[k].toNat : Int) == ((47 : UInt8).toNat : Int)) = false := beq_fi (fun e => q (UInt8.toNat_inj.1 (by omega)))
        simp (disch := omega) only [cond_false, e]
        obtain ⟨m', acc', e1, e2, e3, e4⟩ := l00Cut_l4 N n c m (k + 1) acc (by omega) (by omega) (by omega) (by omega) hc (by omega)
        refine ⟨m', acc', e1, e2, e3, e4.trans ?_⟩
        have hb : (c[k] == 47) = false := by simp [q]
        rw [drop_get h, splA, hb, cond_false, take_drop_succ c m k hm h]
    · have : k = c.length := by omega
      subst this
      refine ⟨m, acc, by simp (disch := omega) only [dec_t, dec_f, cond_false, gd_true, Bool.and_self, Int.toNat_natCast, bind_id, nc1, wi_of, room_t, List.length_cons, List.length_nil], hm, ha, ?_⟩
      simp [splA]
theorem l00Cut_eq {N : Nat} (hN : 18446744073709551616 ≤ N) (c : List UInt8) (hc : c.length ≤ 1000000) : g_br N c 47 = some (splA 47 [] c) := by
  obtain ⟨m', acc', e1, e2, e3, e4⟩ := l00Cut_l4 N N c 0 0 [] (by omega) (by omega) (by omega) (by omega) hc (by simp)
  rw [Int.natCast_zero] at e1
  unfold g_br
  simp only [List.take_zero, List.drop_zero, List.drop_nil, List.nil_append] at e4
  rw [e1]
  simp (disch := omega) only [dec_t, gd_true, Bool.and_true, Int.toNat_natCast, Option.bind_some, room_t, List.length_cons, List.length_nil, List.take_length, e4]
theorem genSplit_l11 (N : Nat) : ∀ (n k : Nat) (s : List UInt8) (acc : List (List UInt8)), k < n → s.count 47 = k → s.length ≤ 1000000 → acc.length + k ≤ 1000000 →
    ∃ (s' : List UInt8) (ps : List (List UInt8)), g_db.l11 N n [47] 0 ((acc.length + k : Nat) : Int) s (acc.length : Int) (acc ++ List.replicate (k + 1) []) = some (s', ((acc.length + k : Nat) : Int), acc ++ (ps ++ [[]])) ∧ ps.length = k ∧ ps ++ [s'] = splA 47 [] s
  | 0, _, _, _, h, _, _, _ => by omega
  | n + 1, 0, s, acc, hn, hs, hl, ha => by
    unfold g_db.l11
    refine ⟨s, [], ?_, rfl, by rw [splA_none 47 s [] hs]; rfl⟩
    simp (disch := omega) only [dec_t, dec_f, cond_false, gd_true, Bool.and_true, Bool.true_and, Int.toNat_natCast, bind_id, nc1, wi_of, List.length_append, List.length_cons, List.length_nil, List.length_replicate, Nat.add_zero]
    rfl
  | n + 1, k + 1, s, acc, hn, hs, hl, ha => by
    obtain ⟨o, e1, e2, e3, e4⟩ := idx_split 47 s [] (by omega)
    obtain ⟨s', ps, f1, f2, f3⟩ := genSplit_l11 N n k (s.drop (o + 1)) (acc ++ [s.take o]) (by omega) (by omega) (by simp; omega) (by simp; omega)
    refine ⟨s', s.take o :: ps, ?_, by simp [f2], ?_⟩
    · unfold g_db.l11 g_cy g_bc
      rw [show acc.length + (k + 1) = (acc ++ [s.take o]).length + k by simp; omega]
      have a1 : acc.length < (acc ++ List.replicate (k + 1 + 1) ([] : List UInt8)).length := by simp
      have a2 : (acc ++ List.replicate (k + 1 + 1) ([] : List UInt8)).set acc.length ((s.take o).drop 0) = acc ++ [s.take o] ++ List.replicate (k + 1) [] := by
        rw [List.replicate_succ, mid_set]; simp
      simp (disch := simp; omega) only [dec_t, cond_true, gd_true, Bool.true_and, Int.toNat_natCast, Option.bind_some, bind_id, nc1, wi_of, List.length_append, List.length_cons, List.length_nil, List.length_replicate, e1]
      simp (disch := omega) only [dec_t, dec_f, cond_false, gd_true, Bool.and_self, Int.toNat_natCast, get_t, Option.bind_some, wi_of, Int.add_zero, List.take_length, a2]
      rw [show ((o : Int) + ((0 + 1 : Nat) : Int)).toNat = o + 1 by omega]
      simp only [List.length_append, List.length_cons, List.length_nil] at f1
      exact f1.trans (by simp)
    · rw [e3, ← f3]; simp
theorem Split_eq {N : Nat} (hN : 18446744073709551616 ≤ N) (s : List UInt8) (hs : s.length ≤ 1000) : g_da N s [47] = some (splA 47 [] s) := by
  have hc : s.count 47 ≤ s.length := List.count_le_length
  obtain ⟨s', ps, f1, f2, f3⟩ := genSplit_l11 N N (s.count 47) s [] (by omega) rfl (by omega) (by simp; omega)
  simp only [List.length_nil, Nat.zero_add, List.nil_append, Int.natCast_zero] at f1
  unfold g_da g_db g_cx Lib.countByte
  have e1 : (([47] : List UInt8) == []) = false := rfl
  have e2 : min (wi (((s.count 47 : Nat) : Int) + 1)) (wi ((s.length : Int) + 1)) = ((s.count 47 + 1 : Nat) : Int) := by
    rw [wi_of (by omega) (by omega), wi_of (by omega) (by omega)]; omega
  have e3 : wi (((s.count 47 + 1 : Nat) : Int) - 1) = ((s.count 47 : Nat) : Int) := by rw [wi_of (by omega) (by omega)]; omega
  have e4 : ((-1 : Int) == 0) = false := rfl
  have e5 : ((ps ++ [[]]).set ps.length s') = ps ++ [s'] := by rw [show ps ++ [([] : List UInt8)] = ps ++ [] :: [] from rfl, mid_set]
  simp only [e4, e1, cond_false, show decide ((-1 : Int) < 0) = true from rfl, cond_true, Option.bind_some, e2, e3, Int.toNat_natCast, f1]
  have g1 : (ps ++ [([] : List UInt8)])[ps.length]? = some [] := mid_get ps [] []
  have g2 : (ps ++ [s']).length = ps.length + 1 := by simp
  rw [← f3, ← f2]
  simp (disch := first | omega | simp) only [dec_t, gd_true, Bool.and_self, Int.toNat_natCast, Option.bind_some, bind_id, nc1, wi_of, room_t, List.length_append, List.length_cons, List.length_nil, g1, e5, g2, List.drop_zero, Nat.sub_zero, List.take_of_length_le]
/-! ### Names -/
def isLet (c : UInt8) : Bool := decide (97 ≤ c.toNat) && decide (c.toNat ≤ 122) || (decide (65 ≤ c.toNat) && decide (c.toNat ≤ 90) || decide (c.toNat = 95))
def isDig (c : UInt8) : Bool := decide (48 ≤ c.toNat) && decide (c.toNat ≤ 57)
def nameB : List UInt8 → Bool
  | [] => false
  | c :: cs => decide (cs.length < 40) && (isLet c && cs.all fun c => isLet c || isDig c)
theorem ge_nat (c : UInt8) (k : Nat) : ((c.toNat : Int) ≥ (k : Int)) = (k ≤ c.toNat) := propext (by omega)
theorem le_nat (c : UInt8) (k : Nat) : ((c.toNat : Int) ≤ (k : Int)) = (c.toNat ≤ k) := propext (by omega)
theorem beq_nat (c : UInt8) (k : Nat) : ((c.toNat : Int) == (k : Int)) = decide (c.toNat = k) := by
  rw [beq_dec]; exact decide_eq_decide.2 (by omega)
theorem l00Letter_eq (N : Nat) (c : UInt8) : g_bt N c = some (isLet c) := by
  unfold g_bt isLet
  have e1 := ge_nat c 97; have e2 := le_nat c 122; have e3 := ge_nat c 65; have e4 := le_nat c 90; have e5 := beq_nat c 95
  simp only [Int.cast_ofNat_Int] at e1 e2 e3 e4 e5
  simp only [e1, e2, e3, e4, e5]
  cases decide (97 ≤ c.toNat) <;> cases decide (c.toNat ≤ 122) <;> cases decide (65 ≤ c.toNat) <;> cases decide (c.toNat ≤ 90) <;> cases decide (c.toNat = 95) <;> rfl
theorem l00Digit_eq (N : Nat) (c : UInt8) : g_bs N c = some (isDig c) := by
  unfold g_bs isDig
  have e1 := ge_nat c 48; have e2 := le_nat c 57
  simp only [Int.cast_ofNat_Int] at e1 e2
  simp only [e1, e2]
  cases decide (48 ≤ c.toNat) <;> cases decide (c.toNat ≤ 57) <;> rfl
theorem l00Word_l4 (N : Nat) : ∀ (n k : Nat) (c : List UInt8), c.length ≤ k + n - 1 → 0 < n → k ≤ c.length → c.length ≤ 1000000 →
    g_cc.l4 N n c (k : Int) = some (bif (c.drop k).all (fun c => isLet c || isDig c) then .inr () else .inl false)
  | 0, _, _, _, h, _, _ => by omega
  | n + 1, k, c, hn, _, hk, hc => by
    unfold g_cc.l4
    by_cases h : k < c.length
    · simp (disch := omega) only [dec_t, cond_true, gd_true, Int.toNat_natCast, get_t, Option.bind_some, bind_id, nc1, wi_of, l00Letter_eq, l00Digit_eq, l00Word_l4 N n (k + 1) c (by omega) (by omega) (by omega) hc, drop_get h, List.all_cons]
      cases isLet c[k] <;> cases isDig c[k] <;> rfl
    · simp (disch := omega) only [dec_t, dec_f, cond_true, cond_false, gd_true, Int.toNat_natCast, bind_id, nc1, wi_of, List.drop_of_length_le, List.all_nil]
theorem specName_eq {N : Nat} (hN : 18446744073709551616 ≤ N) (c : List UInt8) (hc : c.length ≤ 1000000) : g_bp N c = some (nameB c) := by
  unfold g_bp g_cc
  cases c with
  | nil => rfl
  | cons x xs =>
    rw [List.length_cons] at hc
    have key := l00Word_l4 N N 1 (x :: xs) (by simp; omega) (by omega) (by simp) (by simp; omega)
    rw [List.drop_succ_cons, List.drop_zero] at key
    simp only [Int.natCast_one] at key
    unfold nameB
    by_cases h : xs.length < 40
    · simp (disch := simp; omega) only [dec_f, decide_true, cond_false, Bool.true_and, Option.bind_some, bind_id, List.length_cons, l00Letter_eq, List.getElem?_cons_zero, key, h]
      cases isLet x <;> cases xs.all (fun c => isLet c || isDig c) <;> rfl
    · simp (disch := simp; omega) only [dec_t, dec_f, decide_false, cond_true, cond_false, bind_id, List.length_cons, h]
      rfl
theorem implName_l2 (N : Nat) : ∀ (n k : Nat) (c : List UInt8), c.length ≤ k + n - 1 → 0 < n → k ≤ c.length → 0 < k → c.length ≤ 1000000 →
    g_ad.l2 N n c (c.length : Int) (k : Int) = some (bif (c.drop k).all (fun c => isLet c || isDig c) then .inr () else .inl false)
  | 0, _, _, _, h, _, _, _ => by omega
  | n + 1, k, c, hn, _, hk, h0, hc => by
    unfold g_ad.l2
    by_cases h : k < c.length
    · have e1 := ge_nat c[k] 97; have e2 := le_nat c[k] 122; have e3 := ge_nat c[k] 65; have e4 := le_nat c[k] 90; have e5 := beq_nat c[k] 95
      have e6 : decide ((c[k].toNat : Int) < 48) = !decide (48 ≤ c[k].toNat) := by rw [← decide_not]; exact decide_eq_decide.2 (by omega)
      have e7 : decide ((c[k].toNat : Int) > 57) = !decide (c[k].toNat ≤ 57) := by rw [← decide_not]; exact decide_eq_decide.2 (by omega)
      simp only [Int.cast_ofNat_Int] at e1 e2 e3 e4 e5
      have e8 : ((k : Int) == 0) = false := beq_fi (by omega)
      simp (disch := omega) only [dec_t, cond_true, cond_false, gd_true, Int.toNat_natCast, get_t, Option.bind_some, bind_id, nc1, wi_of, implName_l2 N n (k + 1) c (by omega) (by omega) (by omega) (by omega) hc, drop_get h, List.all_cons, e1, e2, e3, e4, e5, e6, e7, e8]
      unfold isLet isDig
      generalize (c.drop (k + 1)).all _ = b
      cases decide (97 ≤ c[k].toNat) <;> cases decide (c[k].toNat ≤ 122) <;> cases decide (65 ≤ c[k].toNat) <;> cases decide (c[k].toNat ≤ 90) <;> cases decide (c[k].toNat = 95) <;> cases decide (48 ≤ c[k].toNat) <;> cases decide (c[k].toNat ≤ 57) <;> rfl
    · simp (disch := omega) only [dec_t, dec_f, cond_true, cond_false, gd_true, Int.toNat_natCast, bind_id, nc1, wi_of, beq_fi, List.drop_of_length_le, List.all_nil]
theorem implName_eq {N : Nat} (hN : 18446744073709551616 ≤ N) (c : List UInt8) (hc : c.length ≤ 1000000) : g_ad N c = some (nameB c) := by
  unfold g_ad
  obtain ⟨M, rfl⟩ : ∃ M, N = M + 1 := ⟨N - 1, by omega⟩
  cases c with
  | nil => simp (disch := omega) only [dec_t, dec_f, decide_false, cond_true, cond_false, gd_true, alt_inr, Bool.and_true, Option.bind_some, bind_id, wi_of, beq_ti, List.length_nil, g_ad.l2, List.length_nil, Int.natCast_zero, Int.lt_irrefl, within_eq]; rfl
  | cons x xs =>
    rw [List.length_cons] at hc
    have key := implName_l2 (M + 1) M 1 (x :: xs) (by simp; omega) (by omega) (by simp) (by omega) (by simp; omega)
    rw [List.drop_succ_cons, List.drop_zero] at key
    simp only [Int.natCast_one, List.length_cons] at key
    have e1 := ge_nat x 97; have e2 := le_nat x 122; have e3 := ge_nat x 65; have e4 := le_nat x 90; have e5 := beq_nat x 95
    simp only [Int.cast_ofNat_Int] at e1 e2 e3 e4 e5
    have w1 : wi (0 + 1) = 1 := rfl
    unfold g_ad.l2
    have e9 : decide ((0 : Int) < ((xs.length + 1 : Nat) : Int)) = true := dec_t (by omega)
    have e10 : ((x :: xs) : List UInt8)[(0 : Int).toNat]? = some x := rfl
    have e11 : decide ((0 : Int) ≤ 0) = true := rfl
    have e12 : ((0 : Int) == 0) = true := rfl
    simp only [cond_true, gd_true, Option.bind_some, bind_id, List.length_cons, e9, e10, e11, e12, w1, key, e1, e2, e3, e4, e5, within_eq]
    have e13 : (decide ((1 : Int) ≤ ((x :: xs).length : Int)) && decide (((x :: xs).length : Int) ≤ 40)) = decide (xs.length < 40) := by
      rw [dec_t (show (1 : Int) ≤ ((x :: xs).length : Int) by simp; omega), Bool.true_and]; exact decide_eq_decide.2 (by simp; omega)
    simp only [List.length_cons] at e13
    simp only [e13]
    have hl : isLet x = (decide (97 ≤ x.toNat) && decide (x.toNat ≤ 122) || (decide (65 ≤ x.toNat) && decide (x.toNat ≤ 90) || decide (x.toNat = 95))) := rfl
    rw [show nameB (x :: xs) = (decide (xs.length < 40) && (isLet x && xs.all fun c => isLet c || isDig c)) from rfl]
    generalize xs.all _ = b
    generalize decide (xs.length < 40) = d
    rw [hl]
    cases decide (97 ≤ x.toNat) <;> cases decide (x.toNat ≤ 122) <;> cases decide (65 ≤ x.toNat) <;> cases decide (x.toNat ≤ 90) <;> cases decide (x.toNat = 95) <;> cases b <;> cases d <;> rfl
/-! ### Paths -/
def okPath (p : List UInt8) : Bool := decide (p.length ≤ 40) && (splA 47 [] p).all nameB
theorem l11Path_l5 {N : Nat} (hN : 18446744073709551616 ≤ N) : ∀ (n k : Nat) (c : List (List UInt8)), c.length ≤ k + n - 1 → 0 < n → k ≤ c.length → c.length ≤ 1000000 → (∀ x ∈ c, x.length ≤ 1000000) →
    g_cq.l5 N n (k : Int) c = some (bif (c.drop k).all nameB then .inr () else .inl false)
  | 0, _, _, _, h, _, _, _ => by omega
  | n + 1, k, c, hn, _, hk, hc, hx => by
    unfold g_cq.l5
    by_cases h : k < c.length
    · simp (disch := omega) only [dec_t, cond_true, gd_true, Int.toNat_natCast, get_t, Option.bind_some, bind_id, nc1, wi_of, specName_eq hN _ (hx _ (List.getElem_mem h)), l11Path_l5 hN n (k + 1) c (by omega) (by omega) (by omega) hc hx, drop_get h, List.all_cons]
      cases nameB c[k] <;> rfl
    · simp (disch := omega) only [dec_t, dec_f, cond_true, cond_false, gd_true, Int.toNat_natCast, bind_id, nc1, wi_of, List.drop_of_length_le, List.all_nil]
theorem specPath_eq {N : Nat} (hN : 18446744073709551616 ≤ N) (c : List UInt8) (hc : c.length ≤ 9223372036854775807) : g_cq N c = some (okPath c) := by
  unfold g_cq okPath
  by_cases h : c.length ≤ 40
  · have hl : (splA 47 [] c).length ≤ 1000000 := by rw [splA_len]; have : c.count 47 ≤ c.length := List.count_le_length; omega
    have key := l11Path_l5 hN N 0 (splA 47 [] c) (by omega) (by omega) (by omega) hl (fun x hx => by have := splA_mem 47 c [] x hx; simp at this; omega)
    rw [Int.natCast_zero, List.drop_zero] at key
    simp (disch := omega) only [dec_t, dec_f, cond_false, Bool.true_and, Option.bind_some, l00Cut_eq hN c (by omega), key]
    cases (splA 47 [] c).all nameB <;> rfl
  · simp (disch := omega) only [dec_t, dec_f, cond_true, Bool.false_and]
theorem allName_eq {N : Nat} (hN : 18446744073709551616 ≤ N) (c : List (List UInt8)) (hc : c.length ≤ 1000000) (hx : ∀ x ∈ c, x.length ≤ 1000000) : g_aj N c = some (c.all nameB) := by
  have key : ∀ n c0 c1 m, g_bl.l2 N n c0 c1 m = idxL (g_ai N) n c0 c1 m := by
    intro n c0 c1
    induction n with
    | zero => intro m; rfl
    | succ n ih => intro m; simp only [g_bl.l2, idxL, ih]
  unfold g_aj g_bi g_bl
  rw [key, contains_eq (q := fun r => !nameB r) c (fun x h => by unfold g_ai; rw [implName_eq hN x (hx x h)]; rfl) (by omega) (by omega), Option.bind_some, List.all_eq_not_any_not]
theorem implPath_eq {N : Nat} (hN : 18446744073709551616 ≤ N) (c : List UInt8) (hc : c.length ≤ 9223372036854775807) : g_ae N c = some (okPath c) := by
  unfold g_ae okPath
  by_cases h : c.length ≤ 40
  · have hl : (splA 47 [] c).length ≤ 1000000 := by rw [splA_len]; have : c.count 47 ≤ c.length := List.count_le_length; omega
    simp (disch := omega) only [dec_t, cond_true, Bool.true_and, Option.bind_some, bind_id, Split_eq hN c (by omega), allName_eq hN _ hl (fun x hx => by have := splA_mem 47 c [] x hx; simp at this; omega)]
  · simp (disch := omega) only [dec_f, cond_false, bind_id, Bool.false_and]
/-! ### Parents -/
def lastS (p : List UInt8) : Nat → Option Nat
  | 0 => none
  | k + 1 => if p[k]? = some 47 then some k else lastS p k
def parF (p : List UInt8) : List UInt8 := match lastS p p.length with | some k => p.take k | none => []
theorem lastS_lt (p : List UInt8) : ∀ (k j : Nat), lastS p k = some j → j < k
  | 0, _, h => by cases h
  | k + 1, j, h => by
    unfold lastS at h
    split at h
    · cases h; omega
    · have := lastS_lt p k j h; omega
theorem l11Parent_l2 (N : Nat) : ∀ (n k : Nat) (c : List UInt8), k < n → k ≤ c.length → c.length ≤ 9223372036854775000 →
    g_cp.l2 N n c ((k : Int) - 1) = some (match lastS c k with | some j => .inl (c.take j) | none => .inr ())
  | 0, _, _, h, _, _ => by omega
  | n + 1, 0, c, hn, hk, hc => by
    unfold g_cp.l2
    simp (disch := omega) only [dec_t, dec_f, cond_false, gd_true, Bool.and_self, bind_id, wi_of]
    rfl
  | n + 1, k + 1, c, hn, hk, hc => by
    unfold g_cp.l2 lastS
    have h : k < c.length := by omega
    rw [ncp]
    simp (disch := omega) only [dec_t, decide_true, cond_true, gd_true, Bool.and_self, Int.toNat_natCast, get_t, Option.bind_some, bind_id, wi_of, Nat.zero_le]
    by_cases q : c[k] = 47
    · have e : ((c[k].toNat : Int) == 47) = true := by rw [q]; rfl
      simp (disch := omega) only [List.drop_zero, q, if_true]
      rfl
    · have e : ((c[k].toNat : Int) == 47) = false := beq_fi (fun e => q (UInt8.toNat_inj.1 (by rw [show (47 : UInt8).toNat = 47 from rfl]; omega)))
      have e2 : ¬ (some c[k] = some 47) := fun e => q (by injection e)
      simp (disch := omega) only [cond_false, e, e2, if_false, l11Parent_l2 N n k c (by omega) (by omega) hc]
theorem specParent_eq {N : Nat} (hN : 18446744073709551616 ≤ N) (c : List UInt8) (hc : c.length ≤ 1000000000) : g_cp N c = some (parF c) := by
  unfold g_cp parF
  rw [wi_of (by omega) (by omega), l11Parent_l2 N N c.length c (by omega) (by omega) (by omega)]
  cases lastS c c.length <;> rfl
theorem lastIdx_l2 (N : Nat) : ∀ (n k : Nat) (c : List UInt8), k < n → k ≤ c.length → c.length ≤ 9223372036854775000 →
    g_az.l2 N n c 47 ((k : Int) - 1) = some (match lastS c k with | some j => .inl (j : Int) | none => .inr ())
  | 0, _, _, h, _, _ => by omega
  | n + 1, 0, c, hn, hk, hc => by
    unfold g_az.l2
    simp (disch := omega) only [dec_f, cond_false, bind_id, wi_of]
    rfl
  | n + 1, k + 1, c, hn, hk, hc => by
    unfold g_az.l2 lastS
    have h : k < c.length := by omega
    rw [ncp]
    simp (disch := omega) only [dec_t, cond_true, gd_true, Int.toNat_natCast, get_t, Option.bind_some, bind_id, wi_of]
    by_cases q : c[k] = 47
    · have e : ((c[k].toNat : Int) == ((47 : UInt8).toNat : Int)) = true := by rw [q]; rfl
      simp (disch := omega) only [cond_true, beq_ti, q, if_true]
    · have e : ((c[k].toNat : Int) == ((47 : UInt8).toNat : Int)) = false := beq_fi (fun e => q (UInt8.toNat_inj.1 (by omega)))
      have e2 : ¬ (some c[k] = some 47) := fun e => q (by injection e)
      simp (disch := omega) only [cond_false, e, e2, if_false, lastIdx_l2 N n k c (by omega) (by omega) hc]
theorem implParent_eq {N : Nat} (hN : 18446744073709551616 ≤ N) (c : List UInt8) (hc : c.length ≤ 1000000000) : g_as N c = some (parF c) := by
  unfold g_as g_cz g_az parF
  have e1 : ((([47] : List UInt8).length : Int) == 0) = false := rfl
  have e2 : ((([47] : List UInt8).length : Int) == 1) = true := rfl
  simp only [e1, e2, cond_false, cond_true, List.getElem?_cons_zero, Option.bind_some]
  rw [wi_of (by omega) (by omega), lastIdx_l2 N N c.length c (by omega) (by omega) (by omega)]
  cases h : lastS c c.length with
  | none =>
    have e3 : max (-1 : Int) 0 = 0 := rfl
    simp only [Option.bind_some, alt_inr, e3]
    simp [gd]
  | some j =>
    have := lastS_lt c _ _ h
    have e3 : max (j : Int) 0 = (j : Int) := by omega
    simp (disch := omega) only [dec_t, decide_true, gd_true, alt_inl, Bool.true_and, Int.toNat_natCast, Option.bind_some, bind_id, e3, Nat.zero_le, List.drop_zero]
end Go.Vm
/- The laws' own helpers: marks, sizes. -/
set_option linter.unusedVariables false
set_option maxRecDepth 100000
namespace Go.Vm
end Go.Vm
/- The laws' own helpers, printed by a program of ours. -/
set_option linter.unusedVariables false
set_option maxRecDepth 100000
namespace Go.Vm
abbrev bdFile (n : Nat) (x : List UInt8 × Bool × List UInt8) : Prop := (x.1).length ≤ n ∧ (x.2.2).length ≤ n
abbrev bdFileS (n : Nat) (x : List (List UInt8 × Bool × List UInt8)) : Prop := x.length ≤ n ∧ ∀ y ∈ x, bdFile n y
end Go.Vm
/- Files: found by both; right files; the text of files. -/
set_option linter.unusedVariables false
set_option maxRecDepth 100000
namespace Go.Vm
/-! ### Rising paths, and one of them -/
def risF : List FileT → Bool
  | a :: b :: l => Op.bytesLess a.1 b.1 && risF (b :: l)
  | _ => true
def posF (v : List UInt8) : List FileT → Nat
  | [] => 0
  | x :: xs => if Op.bytesLess x.1 v then posF v xs + 1 else 0
def fdF (v : List UInt8) : List FileT → Nat → Option Nat
  | [], _ => none
  | x :: xs, k => if x.1 = v then some k else fdF v xs (k + 1)
theorem risF_tail {a : FileT} {l : List FileT} (h : risF (a :: l) = true) : risF l = true := by
  cases l with
  | nil => rfl
  | cons b l => simp only [risF, Bool.and_eq_true] at h; exact h.2
theorem risF_head : ∀ {a : FileT} {l : List FileT}, risF (a :: l) = true → ∀ x ∈ l, Op.bytesLess a.1 x.1 = true
  | a, b :: l, h, x, hx => by
    simp only [risF, Bool.and_eq_true] at h
    rcases List.mem_cons.1 hx with rfl | hx
    · exact h.1
    · exact less_trans h.1 (risF_head h.2 x hx)
theorem posF_le (v : List UInt8) : ∀ l, posF v l ≤ l.length
  | [] => Nat.le_refl _
  | x :: xs => by unfold posF; split <;> simp [posF_le v xs]
theorem posF_lt (v : List UInt8) : ∀ {l : List FileT}, risF l = true → ∀ (h : Nat) (hh : h < l.length), (Op.bytesLess l[h].1 v = true ↔ h < posF v l)
  | x :: xs, hr, 0, hh => by
    unfold posF
    by_cases q : Op.bytesLess x.1 v = true <;> simp [q]
  | x :: xs, hr, h + 1, hh => by
    unfold posF
    have ih := posF_lt v (risF_tail hr) h (by simpa using hh)
    by_cases q : Op.bytesLess x.1 v = true
    · simp only [q, if_true, List.getElem_cons_succ, Nat.add_lt_add_iff_right]; exact ih
    · rw [if_neg q]
      constructor
      · intro k
        exact absurd (less_trans (risF_head hr _ (List.getElem_mem (by simpa using hh))) k) q
      · intro k; omega
theorem fdF_pos (v : List UInt8) : ∀ {l : List FileT} (k : Nat), risF l = true → fdF v l k = (match l[posF v l]? with | some x => if x.1 = v then some (k + posF v l) else none | none => none)
  | [], k, _ => rfl
  | x :: xs, k, hr => by
    unfold fdF posF
    by_cases q : Op.bytesLess x.1 v = true
    · have : x.1 ≠ v := fun e => by rw [e, less_irrefl] at q; cases q
      rw [if_neg this, if_pos q, fdF_pos v (k + 1) (risF_tail hr), List.getElem?_cons_succ]
      cases xs[posF v xs]? with
      | none => rfl
      | some y => simp only [show k + 1 + posF v xs = k + (posF v xs + 1) by omega]
    · rw [if_neg q, List.getElem?_cons_zero]
      by_cases e : x.1 = v
      · simp [e]
      · simp only [e, if_false]
        have l1 : Op.bytesLess v x.1 = true := by
          have := less_or x.1 v
          rw [Bool.not_eq_true] at q
          rw [q, Bool.false_or] at this
          have hb : (x.1 == v) = false := by simp [e]
          rw [hb] at this
          cases h : Op.bytesLess v x.1
          · rw [h] at this; cases this
          · rfl
        have : ∀ (ys : List FileT) (j : Nat), (∀ y ∈ ys, Op.bytesLess x.1 y.1 = true) → fdF v ys j = none := by
          intro ys
          induction ys with
          | nil => intro _ _; rfl
          | cons y ys ih =>
            intro j h
            have hy := less_trans l1 (h y (List.mem_cons_self ..))
            have : y.1 ≠ v := fun e => by rw [e, less_irrefl] at hy; cases hy
            rw [fdF, if_neg this]
            exact ih (j + 1) fun z hz => h z (List.mem_cons_of_mem _ hz)
        exact this xs (k + 1) (risF_head hr)
theorem l11Find_l2 (N : Nat) : ∀ (n k : Nat) (c : List FileT) (v : List UInt8), c.length ≤ k + n - 1 → 0 < n → k ≤ c.length → c.length ≤ 1000000000 →
    g_ck.l2 N n c v (k : Int) = some (match fdF v (c.drop k) k with | some j => .inl (j : Int) | none => .inr ())
  | 0, _, _, _, _, h, _, _ => by omega
  | n + 1, k, c, v, hn, _, hk, hc => by
    unfold g_ck.l2
    by_cases h : k < c.length
    · simp (disch := omega) only [dec_t, cond_true, gd_true, Int.toNat_natCast, get_t, Option.bind_some, bind_id, nc1, wi_of, drop_get h, fdF]
      by_cases q : c[k].1 = v
      · have e : (c[k].1 == v) = true := by simp [q]
        rw [e]
        simp only [q, cond_true, if_true]
      · have e : (c[k].1 == v) = false := by simp [q]
        simp only [e, q, cond_false, if_false]
        exact l11Find_l2 N n (k + 1) c v (by omega) (by omega) (by omega) hc
    · simp (disch := omega) only [dec_t, dec_f, cond_false, gd_true, Int.toNat_natCast, bind_id, nc1, wi_of, List.drop_of_length_le, fdF]
theorem fdF_lt (v : List UInt8) : ∀ (l : List FileT) (k j : Nat), fdF v l k = some j → k ≤ j ∧ j < k + l.length
  | [], _, _, h => by cases h
  | x :: xs, k, j, h => by
    unfold fdF at h
    split at h
    · cases h; simp
    · have := fdF_lt v xs (k + 1) j h; simp; omega
theorem specFind_eq {N : Nat} (hN : 18446744073709551616 ≤ N) (c : List FileT) (v : List UInt8) (hc : c.length ≤ 1000000000) : g_ck N c v = some (match fdF v c 0 with | some j => (j : Int) | none => -1) := by
  unfold g_ck
  have key := l11Find_l2 N N 0 c v (by omega) (by omega) (by omega) hc
  rw [Int.natCast_zero, List.drop_zero] at key
  rw [key]
  cases fdF v c 0 <;> rfl
def homeF (c : List FileT) (p : List UInt8) : Int := if p = [] then 0 else match fdF p c 0 with | some k => (match c[k]? with | some f => bif f.2.1 then 0 else 17 | none => 5) | none => 5
theorem specHome_eq {N : Nat} (hN : 18446744073709551616 ≤ N) (c : List FileT) (p : List UInt8) (hc : c.length ≤ 1000000000) : g_cl N c p = some (homeF c p) := by
  unfold g_cl homeF
  by_cases q : p = []
  · have e : (p == []) = true := by simp [q]
    rw [e, cond_true, if_pos q]
  · have e : (p == []) = false := by simp [q]
    rw [e, cond_false, if_neg q, specFind_eq hN c p hc, Option.bind_some]
    cases h : fdF p c 0 with
    | none => rfl
    | some k =>
      have hk := (fdF_lt p c 0 k h).2
      simp (disch := omega) only [dec_t, dec_f, cond_false, gd_true, Int.toNat_natCast, Option.bind_some, List.getElem?_eq_getElem (show k < c.length by omega)]
      cases c[k].2.1 <;> rfl
theorem find_l3 (N : Nat) (c : List FileT) (v : List UInt8) (hr : risF c = true) (hc : c.length ≤ 1000000000) : ∀ (n i j : Nat), j - i < n → i ≤ posF v c → posF v c ≤ j → j ≤ c.length → ∀ z : Int,
    g_bf.l3 N n c v z (i : Int) (j : Int) = some (posF v c : Int)
  | 0, _, _, h, _, _, _, _ => by omega
  | n + 1, i, j, hn, hi, hj, hl, z => by
    unfold g_bf.l3
    by_cases h : i < j
    · have e1 : wi (shr (w64 (wi ((i : Int) + (j : Int)))) 1) = (((i + j) / 2 : Nat) : Int) := by
        have a1 : wi ((i : Int) + (j : Int)) = (i : Int) + (j : Int) := wi_of (by omega) (by omega)
        have a2 : w64 ((i : Int) + (j : Int)) = (i : Int) + (j : Int) := by
          unfold w64 IntKind.wrap; simp [IntKind.bits, IntKind.signed]; omega
        rw [a1, a2, shr_eq, show (2 : Int) ^ 1 = 2 by decide, wi_of (by omega) (by omega)]
        omega
      have hm : (i + j) / 2 < c.length := by omega
      rw [dec_t (by omega), cond_true, e1, dec_t (by omega), gd_true, Int.toNat_natCast, get_t hm, Option.bind_some]
      unfold g_an g_cw g_ay
      rw [Option.bind_some, Option.bind_some, Option.bind_some, cmp_neg]
      have key := posF_lt v hr _ hm
      by_cases q : Op.bytesLess c[(i + j) / 2].1 v = true
      · have hq := key.1 q
        rw [q, cond_true, nc1, wi_of (by omega) (by omega)]
        dsimp only
        rw [find_l3 N c v hr hc n ((i + j) / 2 + 1) j (by omega) (by omega) hj hl]; rfl
      · have hq : ¬ (i + j) / 2 < posF v c := fun h => q (key.2 h)
        rw [Bool.not_eq_true] at q
        rw [q, cond_false, find_l3 N c v hr hc n i ((i + j) / 2) (by omega) hi (by omega) (by omega)]; rfl
    · rw [dec_f (by omega), cond_false]
      congr 1; omega
theorem implFind_eq {N : Nat} (hN : 18446744073709551616 ≤ N) (c : List FileT) (v : List UInt8) (hr : risF c = true) (hc : c.length ≤ 1000000000) :
    g_am N c v = some ((posF v c : Int), match c[posF v c]? with | some x => decide (x.1 = v) | none => false) := by
  unfold g_am g_bf
  have key := find_l3 N c v hr hc N 0 c.length (by omega) (by omega) (posF_le v c) (Nat.le_refl _) (c.length : Int)
  rw [Int.natCast_zero] at key
  rw [key, Option.bind_some, bind_id]
  by_cases h : posF v c < c.length
  · simp (disch := omega) only [dec_t, cond_true, gd_true, Int.toNat_natCast, Option.bind_some, List.getElem?_eq_getElem h]
    unfold g_an g_cw g_ay
    simp only [Option.bind_some, cmp_zero]
  · rw [dec_f (by omega), cond_false, List.getElem?_eq_none (by omega)]
theorem parentCode_eq {N : Nat} (hN : 18446744073709551616 ≤ N) (c : List FileT) (p : List UInt8) (hr : risF c = true) (hc : c.length ≤ 1000000000) (hp : p.length ≤ 1000000000) : g_at N c p = some (homeF c (parF p)) := by
  unfold g_at homeF
  rw [implParent_eq hN p hp, Option.bind_some, implFind_eq hN c _ hr hc, Option.bind_some, fdF_pos (parF p) 0 hr]
  generalize parF p = v
  by_cases q : v = []
  · have e : (v == []) = true := by simp [q]
    rw [e, cond_true, if_pos q]
  · have e : (v == []) = false := by simp [q]
    rw [e, cond_false, if_neg q]
    by_cases h : posF v c < c.length
    · simp only [List.getElem?_eq_getElem h]
      by_cases w : c[posF v c].1 = v
      · simp (disch := omega) only [dec_t, decide_true, cond_false, gd_true, Bool.not_true, Int.toNat_natCast, Option.bind_some, w, if_true, Nat.zero_add, List.getElem?_eq_getElem h]
        cases c[posF v c].2.1 <;> rfl
      · simp only [w, decide_false, Bool.not_false, cond_true, if_false]
    · simp only [List.getElem?_eq_none (show c.length ≤ posF v c by omega), Bool.not_false, cond_true]
/-! ### Right files -/
def okOne (f : FileT) : Bool := okPath f.1 && (decide (f.2.2.length ≤ 200) && (!f.2.1 || decide (f.2.2 = [])))
def homed (c : List FileT) (f : FileT) : Bool := homeF c (parF f.1) == 0
def okFiles (c : List FileT) : Bool := decide (c.length ≤ 12) && (risF c && (c.all okOne && c.all (homed c)))
theorem specFiles_l6 {N : Nat} (hN : 18446744073709551616 ≤ N) (c : List FileT) (hc : c.length ≤ 1000000) (hb : bdFileS 1000000000 c) : ∀ (n k : Nat), c.length ≤ k + n → 0 < n → k + 1 ≤ c.length ∨ k = 0 →
    g_bn.l6 N n c ((k + 1 : Nat) : Int) = some (bif risF (c.drop k) && ((c.drop (k + 1)).all okOne && (c.drop (k + 1)).all (homed c)) then .inr () else .inl false)
  | 0, _, _, h, _ => by omega
  | n + 1, k, hn, _, hk => by
    unfold g_bn.l6
    by_cases h : k + 1 < c.length
    · have e1 : c.drop k = c[k] :: c.drop (k + 1) := drop_get (show k < c.length by omega)
      have e2 : c.drop (k + 1) = c[k + 1] :: c.drop (k + 1 + 1) := drop_get h
      have hx := hb.2 _ (List.getElem_mem h)
      have hl1 : c[k + 1].1.length ≤ 1000000000 := hx.1
      have ih := specFiles_l6 hN c hc hb n (k + 1) (by omega) (by omega) (by omega)
      simp (disch := omega) only [dec_t, cond_true, gd_true, Int.toNat_natCast, Option.bind_some, bind_id, nc1, wi_of, specPath_eq hN c[k + 1].1 (by omega), specParent_eq hN c[k + 1].1 hl1, specHome_eq hN c _ (show c.length ≤ 1000000000 by omega), ncp, List.getElem?_eq_getElem h, List.getElem?_eq_getElem (show k < c.length by omega), ih]
      have e3 : homed c c[k + 1] = (homeF c (parF c[k + 1].1) == 0) := rfl
      have e4 : (homeF c (parF c[k + 1].1) != 0) = !(homeF c (parF c[k + 1].1) == 0) := rfl
      have e5 : decide (((c[k + 1].2.2.length : Nat) : Int) > 200) = !decide (c[k + 1].2.2.length ≤ 200) := by rw [← decide_not]; exact decide_eq_decide.2 (by omega)
      have e6 : (c[k + 1].2.2 == []) = decide (c[k + 1].2.2 = []) := beq_dec _ _
      rw [e1, e2]
      simp only [risF, List.all_cons, e3, e4, e5, e6, okOne]
      generalize risF (c[k + 1] :: c.drop (k + 1 + 1)) = b1
      generalize (c.drop (k + 1 + 1)).all _ = b2
      generalize (c.drop (k + 1 + 1)).all _ = b3
      generalize (homeF c (parF c[k + 1].1) == 0) = b4
      generalize decide (c[k + 1].2.2.length ≤ 200) = b5
      generalize decide (c[k + 1].2.2 = []) = b6
      generalize c[k + 1].2.1 = b7
      generalize okPath c[k + 1].1 = b8
      generalize Op.bytesLess c[k].1 c[k + 1].1 = b9
      cases b8 <;> cases b5 <;> cases b7 <;> cases b6 <;> cases b9 <;> cases b4 <;> cases b1 <;> cases b2 <;> cases b3 <;> rfl
    · simp (disch := omega) only [dec_t, dec_f, cond_true, cond_false, gd_true, Bool.and_true, Bool.and_self, Int.toNat_natCast, bind_id, nc1, wi_of, List.drop_of_length_le (show c.length ≤ k + 1 by omega), List.all_nil]
      have : ∃ l, c.drop k = l ∧ l.length ≤ 1 := ⟨_, rfl, by simp; omega⟩
      obtain ⟨l, e, hl⟩ := this
      rw [e]
      match l, hl with
      | [], _ => rfl
      | [_], _ => rfl
theorem specFiles_eq {N : Nat} (hN : 18446744073709551616 ≤ N) (c : List FileT) (hb : bdFileS 1000000000 c) : g_bn N c = some (okFiles c) := by
  have hl : c.length ≤ 1000000000 := hb.1
  unfold g_bn okFiles
  by_cases h12 : c.length ≤ 12
  · simp (disch := omega) only [dec_t, dec_f, cond_false, Bool.true_and]
    have key : g_bn.l6 N N c 0 = some (bif risF c && (c.all okOne && c.all (homed c)) then .inr () else .inl false) := by
      obtain ⟨M, rfl⟩ : ∃ M, N = M + 1 := ⟨N - 1, by omega⟩
      unfold g_bn.l6
      cases hcs : c with
      | nil => rfl
      | cons x xs =>
        have hx : bdFile 1000000000 x := hb.2 x (by rw [hcs]; exact List.mem_cons_self ..)
        have hl1 : x.1.length ≤ 1000000000 := hx.1
        have ih := specFiles_l6 hN c (by omega) hb M 0 (by omega) (by omega) (by omega)
        rw [hcs] at ih hl
        rw [List.drop_zero, List.drop_succ_cons, List.drop_zero] at ih
        have w1 : wi (0 + 1) = ((0 + 1 : Nat) : Int) := rfl
        have e9 : decide ((0 : Int) < ((x :: xs).length : Int)) = true := dec_t (by simp)
        have e10 : (x :: xs)[(0 : Int).toNat]? = some x := rfl
        have e11 : decide ((0 : Int) ≤ 0) = true := rfl
        have e12 : decide ((0 : Int) > 0) = false := rfl
        have e4 : (homeF (x :: xs) (parF x.1) != 0) = !(homeF (x :: xs) (parF x.1) == 0) := rfl
        have e5 : decide ((x.2.2.length : Int) > 200) = !decide (x.2.2.length ≤ 200) := by rw [← decide_not]; exact decide_eq_decide.2 (by omega)
        have e6 : (x.2.2 == []) = decide (x.2.2 = []) := beq_dec _ _
        simp only [e9, e10, e11, e12, w1, cond_true, cond_false, gd_true, Option.bind_some, specPath_eq hN x.1 (by omega), specParent_eq hN x.1 hl1, specHome_eq hN (x :: xs) _ hl, ih, e4, e5, e6, List.all_cons, homed, okOne]
        generalize risF (x :: xs) = b1
        generalize xs.all _ = b2
        generalize xs.all _ = b3
        generalize (homeF (x :: xs) (parF x.1) == 0) = b4
        generalize decide (x.2.2.length ≤ 200) = b5
        generalize decide (x.2.2 = []) = b6
        generalize x.2.1 = b7
        generalize okPath x.1 = b8
        cases b8 <;> cases b5 <;> cases b7 <;> cases b6 <;> cases b4 <;> cases b1 <;> cases b2 <;> cases b3 <;> rfl
    rw [key]
    cases risF c && (c.all okOne && c.all (homed c)) <;> rfl
  · by_cases h4 : c.length ≤ 4096
    · simp (disch := omega) only [dec_t, dec_f, cond_true, cond_false, Bool.false_and]
    · simp (disch := omega) only [dec_t, dec_f, cond_true, Bool.false_and]
theorem implFiles_l2 {N : Nat} (hN : 18446744073709551616 ≤ N) (c : List FileT) (hb : bdFileS 1000000000 c) : ∀ (n k : Nat), c.length ≤ k + n → 0 < n → k + 1 ≤ c.length ∨ k = 0 →
    g_ab.l2 N n c (c.length : Int) ((k + 1 : Nat) : Int) c = some (bif risF (c.drop k) && (c.drop (k + 1)).all okOne then .inr c else .inl false)
  | 0, _, _, h, _ => by omega
  | n + 1, k, hn, _, hk => by
    have hc : c.length ≤ 1000000000 := hb.1
    unfold g_ab.l2
    by_cases h : k + 1 < c.length
    · have e1 : c.drop k = c[k] :: c.drop (k + 1) := drop_get (show k < c.length by omega)
      have e2 : c.drop (k + 1) = c[k + 1] :: c.drop (k + 1 + 1) := drop_get h
      have hx := hb.2 _ (List.getElem_mem h)
      have hl1 : c[k + 1].1.length ≤ 1000000000 := hx.1
      have ih := implFiles_l2 hN c hb n (k + 1) (by omega) (by omega) (by omega)
      simp (disch := omega) only [dec_t, cond_true, gd_true, Int.toNat_natCast, Option.bind_some, bind_id, nc1, wi_of, implPath_eq hN c[k + 1].1 (by omega), ncp, List.getElem?_eq_getElem h, List.getElem?_eq_getElem (show k < c.length by omega), ih, less_or]
      have e5 : decide (((c[k + 1].2.2.length : Nat) : Int) > 200) = !decide (c[k + 1].2.2.length ≤ 200) := by rw [← decide_not]; exact decide_eq_decide.2 (by omega)
      have e6 : (c[k + 1].2.2 == []) = decide (c[k + 1].2.2 = []) := beq_dec _ _
      rw [e1, e2]
      simp only [risF, List.all_cons, e5, e6, okOne]
      generalize risF (c[k + 1] :: c.drop (k + 1 + 1)) = b1
      generalize (c.drop (k + 1 + 1)).all _ = b2
      generalize decide (c[k + 1].2.2.length ≤ 200) = b5
      generalize decide (c[k + 1].2.2 = []) = b6
      generalize c[k + 1].2.1 = b7
      generalize okPath c[k + 1].1 = b8
      generalize Op.bytesLess c[k].1 c[k + 1].1 = b9
      cases b8 <;> cases b5 <;> cases b7 <;> cases b6 <;> cases b9 <;> cases b1 <;> cases b2 <;> rfl
    · simp (disch := omega) only [dec_t, dec_f, cond_true, cond_false, gd_true, Bool.and_true, Int.toNat_natCast, bind_id, nc1, wi_of, List.drop_of_length_le (show c.length ≤ k + 1 by omega), List.all_nil]
      have : ∃ l, c.drop k = l ∧ l.length ≤ 1 := ⟨_, rfl, by simp; omega⟩
      obtain ⟨l, e, hl⟩ := this
      rw [e]
      match l, hl with
      | [], _ => rfl
      | [_], _ => rfl
theorem homedAll_eq {N : Nat} (hN : 18446744073709551616 ≤ N) (c : List FileT) (hr : risF c = true) (hb : bdFileS 1000000000 c) : g_ah N c c = some (c.all (homed c)) := by
  have hc : c.length ≤ 1000000000 := hb.1
  have key : ∀ n c0 c1 (L : List FileT) m, g_bk.l2 N n c0 c1 L m = (idxL (fun e => g_ag N e L) n c0 c1 m).bind fun s => alt s (fun y => some (.inl (L, y))) (fun _ => some (.inr L)) := by
    intro n c0 c1 L
    induction n with
    | zero => intro m; rfl
    | succ n ih =>
      intro m
      simp only [g_bk.l2, idxL, ih]
      by_cases q : m < c1
      · by_cases q2 : 0 ≤ m
        · simp only [q, q2, decide_true, cond_true, gd_true]
          cases c0[m.toNat]? with
          | none => rfl
          | some e =>
            rw [Option.bind_some, Option.bind_some]
            cases g_ag N e L with
            | none => rfl
            | some b => cases b <;> simp only [Option.bind_some, cond_true, cond_false, bind_id, alt_inl]
        · simp only [q, q2, decide_true, decide_false, cond_true, gd_false]; rfl
      · simp only [q, decide_false, cond_false]; rfl
  unfold g_ah g_bh g_bk
  rw [key]
  have hp : ∀ x ∈ c, (fun e => g_ag N e c) x = some (!homed c x) := by
    intro x hx
    have := (hb.2 x hx).1
    show g_ag N x c = some (!homed c x)
    unfold g_ag g_ac
    rw [parentCode_eq hN c x.1 hr hc this]; rfl
  rw [show (0 : Int) = ((0 : Nat) : Int) from rfl, idxL_eq N c 0 hp (by omega) (by omega) (by omega) (by omega), List.drop_zero, Option.bind_some]
  have h2 := idxF_any (fun x => !homed c x) c 0
  rw [List.all_eq_not_any_not, ← h2]
  cases idxF (fun x => !homed c x) c 0 <;> rfl
theorem implFiles_eq {N : Nat} (hN : 18446744073709551616 ≤ N) (c : List FileT) (hb : bdFileS 1000000000 c) : g_ab N c = some (okFiles c) := by
  have hl : c.length ≤ 1000000000 := hb.1
  unfold g_ab okFiles
  have key : g_ab.l2 N N c (c.length : Int) 0 c = some (bif risF c && c.all okOne then .inr c else .inl false) := by
    obtain ⟨M, rfl⟩ : ∃ M, N = M + 1 := ⟨N - 1, by omega⟩
    unfold g_ab.l2
    cases hcs : c with
    | nil => rfl
    | cons x xs =>
      have hx : bdFile 1000000000 x := hb.2 x (by rw [hcs]; exact List.mem_cons_self ..)
      have hl1 : x.1.length ≤ 1000000000 := hx.1
      have ih := implFiles_l2 hN c hb M 0 (by omega) (by omega) (by omega)
      rw [hcs] at ih hl
      rw [List.drop_zero, List.drop_succ_cons, List.drop_zero] at ih
      have w1 : wi (0 + 1) = ((0 + 1 : Nat) : Int) := rfl
      have e9 : decide ((0 : Int) < ((x :: xs).length : Int)) = true := dec_t (by simp)
      have e10 : (x :: xs)[(0 : Int).toNat]? = some x := rfl
      have e11 : decide ((0 : Int) ≤ 0) = true := rfl
      have e12 : decide ((0 : Int) > 0) = false := rfl
      have e5 : decide ((x.2.2.length : Int) > 200) = !decide (x.2.2.length ≤ 200) := by rw [← decide_not]; exact decide_eq_decide.2 (by omega)
      have e6 : (x.2.2 == []) = decide (x.2.2 = []) := beq_dec _ _
      simp only [e9, e10, e11, e12, w1, cond_true, cond_false, gd_true, Option.bind_some, implPath_eq hN x.1 (by omega), ih, e5, e6, List.all_cons, okOne]
      generalize risF (x :: xs) = b1
      generalize xs.all _ = b2
      generalize decide (x.2.2.length ≤ 200) = b5
      generalize decide (x.2.2 = []) = b6
      generalize x.2.1 = b7
      generalize okPath x.1 = b8
      cases b8 <;> cases b5 <;> cases b7 <;> cases b6 <;> cases b1 <;> cases b2 <;> rfl
  rw [key, Option.bind_some]
  cases hr : risF c with
  | false => simp only [Bool.false_and, cond_false, alt_inl, Bool.and_false]
  | true =>
    cases c.all okOne with
    | false => simp only [Bool.and_false, cond_false, alt_inl, Bool.false_and]
    | true =>
      simp only [Bool.and_true, Bool.true_and, cond_true, alt_inr]
      by_cases h : c.length ≤ 12
      · rw [dec_t (show (c.length : Int) ≤ 12 by omega), cond_true, homedAll_eq hN c hr hb, dec_t h]; rfl
      · rw [dec_f (show ¬ (c.length : Int) ≤ 12 by omega), cond_false, dec_f h]; rfl
theorem okOne_len {f : FileT} (h : okOne f = true) : f.1.length ≤ 40 ∧ f.2.2.length ≤ 200 := by
  unfold okOne okPath at h
  simp only [Bool.and_eq_true, decide_eq_true_eq] at h
  exact ⟨h.1.1, h.2.1⟩
theorem okFiles_parts {c : List FileT} (h : okFiles c = true) : c.length ≤ 12 ∧ risF c = true ∧ (∀ f ∈ c, okOne f = true) ∧ ∀ f ∈ c, homed c f = true := by
  unfold okFiles at h
  simp only [Bool.and_eq_true, decide_eq_true_eq, List.all_eq_true] at h
  exact ⟨h.1, h.2.1, h.2.2.1, h.2.2.2⟩
end Go.Vm
/- Files: what keeps a list of files right. -/
set_option linter.unusedVariables false
set_option maxRecDepth 100000
namespace Go.Vm
/-! ### Rising lists -/
def RF (a b : FileT) : Prop := Op.bytesLess a.1 b.1 = true
theorem ris_pw : ∀ c : List FileT, risF c = true ↔ c.Pairwise RF
  | [] => by simp [risF]
  | [a] => by simp [risF]
  | a :: b :: l => by
    rw [List.pairwise_cons, ← ris_pw (b :: l)]
    constructor
    · intro h
      exact ⟨fun x hx => risF_head h x hx, risF_tail h⟩
    · rintro ⟨h1, h2⟩
      simp only [risF, Bool.and_eq_true]
      exact ⟨h1 b (by simp), h2⟩
theorem RF.ne {a b : FileT} (h : RF a b) : a.1 ≠ b.1 := fun e => by unfold RF at h; rw [e, less_irrefl] at h; cases h
theorem pw_uniq : ∀ {c : List FileT}, c.Pairwise RF → ∀ {x y}, x ∈ c → y ∈ c → x.1 = y.1 → x = y
  | a :: l, h, x, y, hx, hy, e => by
    rw [List.pairwise_cons] at h
    rcases List.mem_cons.1 hx with h1 | h1 <;> rcases List.mem_cons.1 hy with h2 | h2
    · rw [h1, h2]
    · rw [h1] at e; exact absurd e (h.1 y h2).ne
    · rw [h2] at e; exact absurd e.symm (h.1 x h1).ne
    · exact pw_uniq h.2 h1 h2 e
theorem less_tri {a b : List UInt8} (h : Op.bytesLess a b = false) (hn : a ≠ b) : Op.bytesLess b a = true := by
  have := less_or a b
  have hb : (a == b) = false := by simp [hn]
  rw [h, hb] at this
  cases hc : Op.bytesLess b a
  · rw [hc] at this; cases this
  · rfl
theorem fdF_none (v : List UInt8) : ∀ (l : List FileT) (k : Nat), fdF v l k = none ↔ ∀ x ∈ l, x.1 ≠ v
  | [], k => by simp [fdF]
  | x :: xs, k => by
    unfold fdF
    by_cases h : x.1 = v
    · simp [h]
    · simp [h, fdF_none v xs (k + 1)]
theorem fdF_get (v : List UInt8) : ∀ (l : List FileT) (k j : Nat), fdF v l k = some j → k ≤ j ∧ ∃ f, l[j - k]? = some f ∧ f.1 = v
  | [], k, j, h => by cases h
  | x :: xs, k, j, h => by
    unfold fdF at h
    by_cases e : x.1 = v
    · rw [if_pos e] at h; cases h
      exact ⟨Nat.le_refl _, x, by simp, e⟩
    · rw [if_neg e] at h
      obtain ⟨h1, f, h2, h3⟩ := fdF_get v xs (k + 1) j h
      refine ⟨by omega, f, ?_, h3⟩
      rw [show j - k = (j - (k + 1)) + 1 by omega, List.getElem?_cons_succ]; exact h2
theorem homeF_zero {c : List FileT} (h : c.Pairwise RF) (p : List UInt8) : homeF c p = 0 ↔ p = [] ∨ ∃ g ∈ c, g.1 = p ∧ g.2.1 = true := by
  unfold homeF
  by_cases hp : p = []
  · simp [hp]
  · rw [if_neg hp]
    cases hf : fdF p c 0 with
    | none =>
      have := (fdF_none p c 0).1 hf
      constructor
      · intro h; cases h
      · rintro (h | ⟨g, hg, e, _⟩)
        · exact absurd h hp
        · exact absurd e (this g hg)
    | some j =>
      obtain ⟨_, f, e1, e2⟩ := fdF_get p c 0 j hf
      rw [Nat.sub_zero] at e1
      simp only [e1]
      have hm : f ∈ c := List.mem_of_getElem? e1
      cases hd : f.2.1 with
      | true => simp only [cond_true, true_iff]; exact .inr ⟨f, hm, e2, hd⟩
      | false =>
        rw [cond_false]
        constructor
        · intro h; cases h
        · rintro (h | ⟨g, hg, e, d⟩)
          · exact absurd h hp
          · obtain rfl := pw_uniq h hg hm (e.trans e2.symm)
            rw [hd] at d; cases d
def HOK (c : List FileT) (f : FileT) : Prop := parF f.1 = [] ∨ ∃ g ∈ c, g.1 = parF f.1 ∧ g.2.1 = true
structure OKF (c : List FileT) : Prop where
  len : c.length ≤ 12
  pw : c.Pairwise RF
  one : ∀ f ∈ c, okOne f = true
  home : ∀ f ∈ c, HOK c f
theorem okf_iff (c : List FileT) : okFiles c = true ↔ OKF c := by
  constructor
  · intro h
    obtain ⟨h1, h2, h3, h4⟩ := okFiles_parts h
    have hp := (ris_pw c).1 h2
    exact ⟨h1, hp, h3, fun f hf => (homeF_zero hp _).1 (by have := h4 f hf; unfold homed at this; simpa using this)⟩
  · intro h
    unfold okFiles
    simp only [Bool.and_eq_true, decide_eq_true_eq, List.all_eq_true]
    exact ⟨h.len, (ris_pw c).2 h.pw, h.one, fun f hf => by unfold homed; simpa using (homeF_zero h.pw _).2 (h.home f hf)⟩
/-! ### One put in -/
def putFl (f : FileT) : List FileT → List FileT
  | [] => [f]
  | x :: xs => bif Op.bytesLess x.1 f.1 then x :: putFl f xs else f :: (x :: xs).filter (fun y => !(y.1 == f.1))
theorem mem_put (f y : FileT) : ∀ c, y ∈ putFl f c ↔ y = f ∨ (y ∈ c ∧ y.1 ≠ f.1)
  | [] => by simp [putFl]
  | x :: xs => by
    unfold putFl
    cases hl : Op.bytesLess x.1 f.1 with
    | true =>
      have hx : x.1 ≠ f.1 := RF.ne (a := x) (b := f) hl
      rw [cond_true, List.mem_cons, mem_put f y xs, List.mem_cons]
      constructor
      · rintro (rfl | rfl | ⟨h1, h2⟩)
        · exact .inr ⟨.inl rfl, hx⟩
        · exact .inl rfl
        · exact .inr ⟨.inr h1, h2⟩
      · rintro (rfl | ⟨rfl | h1, h2⟩)
        · exact .inr (.inl rfl)
        · exact .inl rfl
        · exact .inr (.inr ⟨h1, h2⟩)
    | false =>
      rw [cond_false, List.mem_cons, List.mem_filter]
      simp
theorem put_pw (f : FileT) : ∀ c : List FileT, c.Pairwise RF → (putFl f c).Pairwise RF
  | [], _ => by simp [putFl]
  | x :: xs, h => by
    have h' := h
    rw [List.pairwise_cons] at h
    unfold putFl
    cases hl : Op.bytesLess x.1 f.1 with
    | true =>
      rw [cond_true, List.pairwise_cons]
      refine ⟨fun y hy => ?_, put_pw f xs h.2⟩
      rcases (mem_put f y xs).1 hy with rfl | ⟨h1, _⟩
      · exact hl
      · exact h.1 y h1
    | false =>
      rw [cond_false, List.pairwise_cons]
      refine ⟨fun y hy => ?_, h'.filter _⟩
      rw [List.mem_filter] at hy
      obtain ⟨hy, hn⟩ := hy
      have hn : y.1 ≠ f.1 := by simpa using hn
      rcases List.mem_cons.1 hy with rfl | hy
      · exact less_tri hl hn
      · by_cases e : x.1 = f.1
        · have := h.1 y hy
          unfold RF at this ⊢
          rw [← e]; exact this
        · exact less_trans (less_tri hl e) (h.1 y hy)
theorem put_len (f : FileT) : ∀ c : List FileT, (putFl f c).length = (c.filter (fun y => !(y.1 == f.1))).length + 1
  | [] => rfl
  | x :: xs => by
    unfold putFl
    cases hl : Op.bytesLess x.1 f.1 with
    | true =>
      have hx : x.1 ≠ f.1 := RF.ne (a := x) (b := f) hl
      have hb : (!(x.1 == f.1)) = true := by simp [hx]
      rw [cond_true, List.length_cons, put_len f xs, List.filter_cons, if_pos hb, List.length_cons]
    | false => rw [cond_false, List.length_cons]
theorem put_len1 (f : FileT) (c : List FileT) : (putFl f c).length ≤ c.length + 1 := by
  rw [put_len]; have := List.length_filter_le (fun y : FileT => !(y.1 == f.1)) c; omega
theorem put_len2 (f : FileT) (c : List FileT) {x : FileT} (hx : x ∈ c) (e : x.1 = f.1) : (putFl f c).length ≤ c.length := by
  rw [put_len]
  have : (c.filter (fun y : FileT => !(y.1 == f.1))).length < c.length := List.length_filter_lt_length_iff_exists.2 ⟨x, hx, by simp [e]⟩
  omega
theorem put_ok {c : List FileT} {f : FileT} (h : OKF c) (h1 : okOne f = true) (h2 : HOK c f) (hl : c.length ≤ 11 ∨ ∃ x ∈ c, x.1 = f.1) (hd : f.2.1 = true ∨ ∀ x ∈ c, x.1 = f.1 → x.2.1 = false) : OKF (putFl f c) := by
  refine ⟨?_, put_pw f c h.pw, fun y hy => ?_, fun y hy => ?_⟩
  · rcases hl with hl | ⟨x, hx, e⟩
    · have := put_len1 f c; omega
    · have := put_len2 f c hx e; have := h.len; omega
  · rcases (mem_put f y c).1 hy with rfl | ⟨hy, _⟩
    · exact h1
    · exact h.one y hy
  · have hk : HOK c y := by
      rcases (mem_put f y c).1 hy with rfl | ⟨hy, _⟩
      · exact h2
      · exact h.home y hy
    rcases hk with hk | ⟨g, hg, e, d⟩
    · exact .inl hk
    · refine .inr ?_
      by_cases eg : g.1 = f.1
      · rcases hd with hd | hd
        · exact ⟨f, (mem_put f f c).2 (.inl rfl), eg.symm.trans e, hd⟩
        · rw [hd g hg eg] at d; cases d
      · exact ⟨g, (mem_put f g c).2 (.inr ⟨hg, eg⟩), e, d⟩
/-! ### Paths: what stands below -/
theorem splA_app (c : UInt8) : ∀ (a b cur : List UInt8), splA c cur (a ++ c :: b) = splA c cur a ++ splA c [] b
  | [], b, cur => by rw [List.nil_append, splA_cons]; simp [splA]
  | x :: xs, b, cur => by
    rw [List.cons_append, splA_cons, splA_cons, splA_app c xs b [], splA_app c xs b (cur ++ [x])]
    cases x == c <;> rfl
theorem okPath_parts {p : List UInt8} (h : okPath p = true) : p.length ≤ 40 ∧ ∀ x ∈ splA 47 [] p, nameB x = true := by
  unfold okPath at h
  simpa only [Bool.and_eq_true, decide_eq_true_eq, List.all_eq_true] using h
theorem okPath_of_one {f : FileT} (h : okOne f = true) : okPath f.1 = true := by
  unfold okOne at h; rw [Bool.and_eq_true] at h; exact h.1
theorem okPath_ne {p : List UInt8} (h : okPath p = true) : p ≠ [] := fun e => by
  subst e; exact absurd ((okPath_parts h).2 [] (by simp [splA])) (by decide)
theorem okPath_tail {a r : List UInt8} (h : okPath (a ++ 47 :: r) = true) : r ≠ [] := fun e => by
  subst e
  refine absurd ((okPath_parts h).2 [] ?_) (by decide)
  rw [splA_app]; simp [splA]
theorem okPath_move {a b r : List UInt8} (h : okPath (a ++ 47 :: r) = true) (hb : okPath b = true) (hl : (b ++ 47 :: r).length ≤ 40) : okPath (b ++ 47 :: r) = true := by
  unfold okPath
  rw [dec_t hl, Bool.true_and, List.all_eq_true, splA_app]
  intro x hx
  rcases List.mem_append.1 hx with hx | hx
  · exact (okPath_parts hb).2 x hx
  · refine (okPath_parts h).2 x ?_
    rw [splA_app]; exact List.mem_append_right _ hx
theorem lastS_get (p : List UInt8) : ∀ (k j : Nat), lastS p k = some j → p[j]? = some 47
  | 0, _, h => by cases h
  | k + 1, j, h => by
    unfold lastS at h
    split at h
    · rename_i e; cases h; exact e
    · exact lastS_get p k j h
theorem lastS_skip (p : List UInt8) (m : Nat) : ∀ (n : Nat), (∀ i, m ≤ i → i < m + n → p[i]? ≠ some 47) → lastS p (m + n) = lastS p m
  | 0, _ => rfl
  | n + 1, h => by
    rw [← Nat.add_assoc, lastS, if_neg (h (m + n) (by omega) (by omega))]
    exact lastS_skip p m n fun i h1 h2 => h i h1 (by omega)
theorem parF_app (q s : List UInt8) (h : (47 : UInt8) ∉ s) : parF (q ++ 47 :: s) = q := by
  unfold parF
  have e : (q ++ 47 :: s).length = (q.length + 1) + s.length := by simp; omega
  rw [e, lastS_skip _ (q.length + 1) s.length (fun i h1 h2 he => by
    rw [List.getElem?_append_right (by omega), show i - q.length = (i - q.length - 1) + 1 by omega, List.getElem?_cons_succ] at he
    exact h (List.mem_of_getElem? he)), lastS, if_pos (by simp)]
  simp
theorem last_split : ∀ (r : List UInt8), (47 : UInt8) ∈ r → ∃ r1 r2, r = r1 ++ 47 :: r2 ∧ (47 : UInt8) ∉ r2
  | x :: xs, h => by
    by_cases hx : (47 : UInt8) ∈ xs
    · obtain ⟨r1, r2, e, h2⟩ := last_split xs hx
      exact ⟨x :: r1, r2, by rw [e]; rfl, h2⟩
    · rcases List.mem_cons.1 h with rfl | h
      · exact ⟨[], xs, rfl, hx⟩
      · exact absurd h hx
theorem parF_nil_or (p : List UInt8) : parF p = [] ∨ ∃ s, p = parF p ++ 47 :: s := by
  unfold parF
  cases h : lastS p p.length with
  | none => exact .inl rfl
  | some k =>
    have h1 := lastS_get p _ _ h
    have h2 := lastS_lt p _ _ h
    rw [List.getElem?_eq_getElem h2] at h1
    have h1 : p[k] = 47 := Option.some.inj h1
    refine .inr ⟨p.drop (k + 1), ?_⟩
    rw [← h1, ← drop_get h2]; simp
def underF (p d : List UInt8) : Bool := decide (d.length + 1 < p.length) && p.take (d.length + 1) == d ++ [47]
theorem under_iff (p d : List UInt8) : underF p d = true ↔ ∃ r, r ≠ [] ∧ p = d ++ 47 :: r := by
  unfold underF
  simp only [Bool.and_eq_true, decide_eq_true_eq, beq_iff_eq]
  constructor
  · rintro ⟨h1, h2⟩
    refine ⟨p.drop (d.length + 1), fun e => ?_, ?_⟩
    · have := congrArg List.length e; simp at this; omega
    · have := List.take_append_drop (d.length + 1) p
      rw [h2] at this
      simpa using this.symm
  · rintro ⟨r, h1, rfl⟩
    have := List.length_pos_iff.2 h1
    refine ⟨by simp; omega, ?_⟩
    rw [show d ++ 47 :: r = (d ++ [47]) ++ r by simp, List.take_append_of_le_length (by simp), List.take_of_length_le (by simp)]
theorem par_under {p q : List UInt8} (h : okPath p = true) (e : parF p = q) (hq : q ≠ []) : underF p q = true := by
  rcases parF_nil_or p with h1 | ⟨s, h1⟩
  · exact absurd (e ▸ h1) hq
  · rw [e] at h1
    refine (under_iff p q).2 ⟨s, ?_, h1⟩
    rw [h1] at h; exact okPath_tail h
/-! ### One taken out -/
theorem rem_ok {c : List FileT} {k : Nat} {f : FileT} (h : OKF c) (hk : c[k]? = some f) (hu : ∀ x ∈ c, underF x.1 f.1 = false) : OKF (c.take k ++ c.drop (k + 1)) := by
  have hlt : k < c.length := (List.getElem?_eq_some_iff.1 hk).1
  have hs : (c.take k ++ c.drop (k + 1)).Sublist c := by
    rw [← List.eraseIdx_eq_take_drop_succ]; exact List.eraseIdx_sublist c k
  refine ⟨Nat.le_trans hs.length_le h.len, h.pw.sublist hs, fun y hy => h.one y (hs.mem hy), fun y hy => ?_⟩
  have hy' := hs.mem hy
  rcases h.home y hy' with e | ⟨g, hg, e, d⟩
  · exact .inl e
  · by_cases hp : parF y.1 = []
    · exact .inl hp
    · refine .inr ⟨g, ?_, e, d⟩
      have hne : g ≠ f := fun eg => by
        subst eg
        have := par_under (okPath_of_one (h.one y hy')) e.symm (e ▸ hp)
        rw [hu y hy'] at this; cases this
      have hc : c = c.take k ++ f :: c.drop (k + 1) := by
        have := List.getElem_of_getElem? hk
        obtain ⟨_, this⟩ := this
        rw [← this, ← drop_get hlt]; simp
      rw [hc] at hg
      rcases List.mem_append.1 hg with hg | hg
      · exact List.mem_append_left _ hg
      · rcases List.mem_cons.1 hg with hg | hg
        · exact absurd hg hne
        · exact List.mem_append_right _ hg
/-! ### Many moved -/
def putAll (c ms : List FileT) : List FileT := ms.foldl (fun c f => putFl f c) c
theorem putAll_mem : ∀ (ms c : List FileT) (y : FileT), y ∈ putAll c ms → y ∈ ms ∨ y ∈ c
  | [], c, y, h => .inr h
  | m :: ms, c, y, h => by
    rcases putAll_mem ms (putFl m c) y h with h | h
    · exact .inl (List.mem_cons_of_mem _ h)
    · rcases (mem_put m y c).1 h with rfl | ⟨h, _⟩
      · exact .inl (List.mem_cons_self ..)
      · exact .inr h
theorem putAll_keep : ∀ (ms c : List FileT) (y : FileT), y ∈ c → (∀ m ∈ ms, m.1 ≠ y.1) → y ∈ putAll c ms
  | [], c, y, h, _ => h
  | m :: ms, c, y, h, hn => putAll_keep ms (putFl m c) y ((mem_put m y c).2 (.inr ⟨h, fun e => hn m (List.mem_cons_self ..) e.symm⟩)) fun x hx => hn x (List.mem_cons_of_mem _ hx)
theorem putAll_new : ∀ (ms c : List FileT) (y : FileT), y ∈ ms → ms.Pairwise (fun a b => a.1 ≠ b.1) → y ∈ putAll c ms
  | m :: ms, c, y, h, hn => by
    rw [List.pairwise_cons] at hn
    rcases List.mem_cons.1 h with rfl | h
    · exact putAll_keep ms _ _ ((mem_put y y c).2 (.inl rfl)) fun x hx e => hn.1 x hx e.symm
    · exact putAll_new ms _ y h hn.2
theorem putAll_pw : ∀ (ms c : List FileT), c.Pairwise RF → (putAll c ms).Pairwise RF
  | [], c, h => h
  | m :: ms, c, h => putAll_pw ms _ (put_pw m c h)
theorem putAll_len : ∀ (ms c : List FileT), (putAll c ms).length ≤ c.length + ms.length
  | [], c => Nat.le_refl _
  | m :: ms, c => by
    have := putAll_len ms (putFl m c)
    have h2 := put_len1 m c
    simp only [putAll, List.foldl_cons, List.length_cons] at this ⊢
    omega
def selB (a : List UInt8) (x : FileT) : Bool := x.1 == a || underF x.1 a
def mvF (a b : List UInt8) (x : FileT) : FileT := (b ++ x.1.drop a.length, x.2)
def outB (a b : List UInt8) (x : FileT) : Bool := !selB a x && !(x.1 == b)
theorem sel_iff (a : List UInt8) (x : FileT) : selB a x = true ↔ x.1 = a ∨ ∃ r, r ≠ [] ∧ x.1 = a ++ 47 :: r := by
  unfold selB
  rw [Bool.or_eq_true, under_iff, beq_iff_eq]
theorem sel_pre {a : List UInt8} {x : FileT} (h : selB a x = true) : x.1 = a ++ x.1.drop a.length := by
  rcases (sel_iff a x).1 h with e | ⟨r, _, e⟩ <;> rw [e] <;> simp
theorem part_len (a b : List UInt8) : ∀ c : List FileT, (c.filter (outB a b)).length + (c.filter (selB a)).length ≤ c.length
  | [] => Nat.le_refl _
  | x :: xs => by
    have ih := part_len a b xs
    rw [List.filter_cons, List.filter_cons]
    cases hs : selB a x with
    | true =>
      have : outB a b x = false := by unfold outB; rw [hs]; rfl
      simp only [this, if_true, List.length_cons]
      simp; omega
    | false =>
      cases outB a b x <;> simp <;> omega
theorem move_ok {c : List FileT} {a b : List UInt8} (h : OKF c) (ha : okPath a = true) (hb : okPath b = true) (hu : underF b a = false) (hh : homeF c (parF b) = 0) (hT : ∀ x ∈ c, x.1 = b → x.2.1 = false)
    (hl : ∀ x ∈ c, selB a x = true → (mvF a b x).1.length ≤ 40) : OKF (putAll (c.filter (outB a b)) ((c.filter (selB a)).map (mvF a b))) := by
  have hbn := okPath_ne hb
  -- nothing stands below the new place
  have anc : ∀ (n : Nat) (r : List UInt8), r.length ≤ n → ∀ x ∈ c, x.1 = b ++ 47 :: r → False := by
    intro n
    induction n with
    | zero =>
      intro r hr x hx e
      have := h.one x hx
      have hp := okPath_of_one this
      rw [e] at hp
      exact okPath_tail hp (List.length_eq_zero_iff.1 (by omega))
    | succ n ih =>
      intro r hr x hx e
      by_cases h47 : (47 : UInt8) ∈ r
      · obtain ⟨r1, r2, e2, h2⟩ := last_split r h47
        have ep : parF x.1 = b ++ 47 :: r1 := by
          rw [e, e2, show b ++ 47 :: (r1 ++ 47 :: r2) = (b ++ 47 :: r1) ++ 47 :: r2 by simp, parF_app _ _ h2]
        rcases h.home x hx with e3 | ⟨g, hg, e3, _⟩
        · rw [ep] at e3; simp at e3
        · have hl2 := congrArg List.length e2
          simp at hl2
          exact ih r1 (by omega) g hg (e3.trans ep)
      · have ep : parF x.1 = b := by rw [e, parF_app _ _ h47]
        rcases h.home x hx with e3 | ⟨g, hg, e3, d⟩
        · rw [ep] at e3; exact hbn e3
        · rw [hT g hg (e3.trans ep)] at d; cases d
  have anc' : ∀ r, ∀ x ∈ c, x.1 ≠ b ++ 47 :: r := fun r x hx e => anc r.length r (Nat.le_refl _) x hx e
  have hmv : ∀ y ∈ (c.filter (selB a)).map (mvF a b), ∃ x ∈ c, selB a x = true ∧ y = mvF a b x ∧ ((x.1 = a ∧ y.1 = b) ∨ ∃ r, r ≠ [] ∧ x.1 = a ++ 47 :: r ∧ y.1 = b ++ 47 :: r) := by
    intro y hy
    obtain ⟨x, hx, rfl⟩ := List.mem_map.1 hy
    rw [List.mem_filter] at hx
    refine ⟨x, hx.1, hx.2, rfl, ?_⟩
    unfold mvF
    rcases (sel_iff a x).1 hx.2 with e | ⟨r, hr, e⟩
    · exact .inl ⟨e, by rw [e]; simp⟩
    · exact .inr ⟨r, hr, e, by rw [e]; simp⟩
  have hout : ∀ x ∈ c.filter (outB a b), x ∈ c ∧ selB a x = false ∧ x.1 ≠ b := by
    intro x hx
    rw [List.mem_filter] at hx
    refine ⟨hx.1, ?_⟩
    have := hx.2
    unfold outB at this
    simpa using this
  have apart : ∀ x ∈ c.filter (outB a b), ∀ m ∈ (c.filter (selB a)).map (mvF a b), m.1 ≠ x.1 := by
    intro x hx m hm e
    obtain ⟨hxc, _, hxb⟩ := hout x hx
    obtain ⟨z, _, _, _, hz⟩ := hmv m hm
    rcases hz with ⟨_, e2⟩ | ⟨r, _, _, e2⟩
    · exact hxb (e.symm.trans e2)
    · exact anc' r x hxc (e.symm.trans e2)
  have dist : ((c.filter (selB a)).map (mvF a b)).Pairwise (fun x y => x.1 ≠ y.1) := by
    rw [List.pairwise_map]
    refine List.Pairwise.imp_of_mem ?_ (h.pw.filter (selB a))
    intro x y hx hy hr e
    rw [List.mem_filter] at hx hy
    unfold mvF at e
    have := List.append_cancel_left e
    exact hr.ne (by rw [sel_pre hx.2, sel_pre hy.2, this])
  have keep : ∀ x ∈ c, selB a x = false → x.1 ≠ b → x ∈ putAll (c.filter (outB a b)) ((c.filter (selB a)).map (mvF a b)) := by
    intro x hx h1 h2
    have hxo : x ∈ c.filter (outB a b) := List.mem_filter.2 ⟨hx, by unfold outB; simp [h1, h2]⟩
    exact putAll_keep _ _ x hxo (apart x hxo)
  refine ⟨?_, putAll_pw _ _ (h.pw.filter _), fun y hy => ?_, fun y hy => ?_⟩
  · have h1 := putAll_len ((c.filter (selB a)).map (mvF a b)) (c.filter (outB a b))
    rw [List.length_map] at h1
    have h2 := part_len a b c
    have := h.len
    omega
  · rcases putAll_mem _ _ y hy with hy | hy
    · obtain ⟨x, hx, hs, rfl, hz⟩ := hmv y hy
      have h1 := h.one x hx
      have h2 := hl x hx hs
      unfold okOne at h1 ⊢
      rw [Bool.and_eq_true] at h1 ⊢
      refine ⟨?_, h1.2⟩
      rcases hz with ⟨_, e⟩ | ⟨r, _, e1, e2⟩
      · rw [e]; exact hb
      · rw [e2] at h2 ⊢; rw [e1] at h1; exact okPath_move h1.1 hb h2
    · exact h.one y (hout y hy).1
  · rcases putAll_mem _ _ y hy with hy | hy
    · obtain ⟨x, hx, hs, ey, hz⟩ := hmv y hy
      rcases hz with ⟨_, e⟩ | ⟨r, hr, e1, e2⟩
      · unfold HOK
        rw [e]
        rcases (homeF_zero h.pw _).1 hh with h0 | ⟨g, hg, e3, d⟩
        · exact .inl h0
        · by_cases hp : parF b = []
          · exact .inl hp
          · refine .inr ⟨g, keep g hg ?_ ?_, e3, d⟩
            · cases hsg : selB a g with
              | false => rfl
              | true =>
                have hbu := (under_iff b (parF b)).1 (par_under hb rfl hp)
                obtain ⟨s, hs1, hs2⟩ := hbu
                have : underF b a = true := by
                  rcases (sel_iff a g).1 hsg with e4 | ⟨r, _, e4⟩
                  · exact (under_iff b a).2 ⟨s, hs1, by rw [← e4, e3]; exact hs2⟩
                  · refine (under_iff b a).2 ⟨r ++ 47 :: s, by simp, ?_⟩
                    rw [hs2, ← e3, e4]; simp
                rw [hu] at this; cases this
            · intro e4
              rw [hT g hg e4] at d; cases d
      · -- below what is moved
        by_cases h47 : (47 : UInt8) ∈ r
        · obtain ⟨r1, r2, e3, h3⟩ := last_split r h47
          have ep : parF x.1 = a ++ 47 :: r1 := by
            rw [e1, e3, show a ++ 47 :: (r1 ++ 47 :: r2) = (a ++ 47 :: r1) ++ 47 :: r2 by simp, parF_app _ _ h3]
          have eq : parF y.1 = b ++ 47 :: r1 := by
            rw [e2, e3, show b ++ 47 :: (r1 ++ 47 :: r2) = (b ++ 47 :: r1) ++ 47 :: r2 by simp, parF_app _ _ h3]
          rcases h.home x hx with e4 | ⟨g, hg, e4, d⟩
          · rw [ep] at e4; simp at e4
          · have hgp := okPath_of_one (h.one g hg)
            have eg := e4.trans ep
            rw [eg] at hgp
            have hsel : selB a g = true := (sel_iff a g).2 (.inr ⟨r1, okPath_tail hgp, eg⟩)
            refine .inr ⟨mvF a b g, putAll_new _ _ _ (List.mem_map.2 ⟨g, List.mem_filter.2 ⟨hg, hsel⟩, rfl⟩) dist, ?_, d⟩
            unfold mvF
            rw [eg, eq]; simp
        · have ep : parF x.1 = a := by rw [e1, parF_app _ _ h47]
          have eq : parF y.1 = b := by rw [e2, parF_app _ _ h47]
          rcases h.home x hx with e4 | ⟨g, hg, e4, d⟩
          · rw [ep] at e4; exact absurd e4 (okPath_ne ha)
          · have eg := e4.trans ep
            have hsel : selB a g = true := (sel_iff a g).2 (.inl eg)
            refine .inr ⟨mvF a b g, putAll_new _ _ _ (List.mem_map.2 ⟨g, List.mem_filter.2 ⟨hg, hsel⟩, rfl⟩) dist, ?_, d⟩
            unfold mvF
            rw [eg, eq]; simp
    · obtain ⟨hyc, hys, hyb⟩ := hout y hy
      rcases h.home y hyc with e | ⟨g, hg, e, d⟩
      · exact .inl e
      · by_cases hp : parF y.1 = []
        · exact .inl hp
        · refine .inr ⟨g, keep g hg ?_ ?_, e, d⟩
          · cases hsg : selB a g with
            | false => rfl
            | true =>
              obtain ⟨s, hs1, hs2⟩ := (under_iff _ _).1 (par_under (okPath_of_one (h.one y hyc)) rfl hp)
              have : selB a y = true := by
                rcases (sel_iff a g).1 hsg with e4 | ⟨r, _, e4⟩
                · exact (sel_iff a y).2 (.inr ⟨s, hs1, by rw [← e4, e]; exact hs2⟩)
                · refine (sel_iff a y).2 (.inr ⟨r ++ 47 :: s, by simp, ?_⟩)
                  rw [hs2, ← e, e4]; simp
              rw [hys] at this; cases this
          · intro e4
            rw [hT g hg e4] at d; cases d
end Go.Vm
/- Disks: what the program and the reference do, in plain words. -/
set_option linter.unusedVariables false
set_option maxRecDepth 100000
namespace Go.Vm
abbrev DiskT := List (List UInt8) × List (Int × List UInt8) × List (List UInt8)
structure OkD (d : DiskT) : Prop where
  b1 : 1 ≤ d.1.length
  b2 : d.1.length ≤ 64
  b3 : ∀ x ∈ d.1, x.length ≤ 200
  c1 : d.2.1.length ≤ 4096
  c2 : ∀ p ∈ d.2.1, 0 ≤ p.1 ∧ p.1 < (d.1.length : Int) ∧ p.2.length ≤ 200
  s1 : d.2.2 = [] ∨ d.2.2.length = d.1.length
  s2 : ∀ x ∈ d.2.2, x.length ≤ 200
theorem OkD.s3 {d : DiskT} (h : OkD d) : d.2.2.length ≤ 64 := by
  rcases h.s1 with e | e
  · rw [e]; simp
  · rw [e]; exact h.b2
end Go.Vm
/- Disks: an act. -/
set_option linter.unusedVariables false
set_option maxRecDepth 100000
namespace Go.Vm
end Go.Vm
/- Disks: runs, reading, comparing. -/
set_option linter.unusedVariables false
set_option maxRecDepth 100000
namespace Go.Vm
end Go.Vm
/- Draws. -/
set_option linter.unusedVariables false
set_option maxRecDepth 100000
namespace Go.Vm
abbrev SrcT := List UInt8 × Int × Int
structure InS (K : Nat) (s : SrcT) : Prop where
  len : s.1.length ≤ 1048576
  p0 : 0 ≤ s.2.1
  p1 : s.2.1 ≤ (K : Int)
  s0 : 0 ≤ s.2.2
  s1 : s.2.2 < 2147483648
theorem InS.mono {K L : Nat} {s : SrcT} (h : InS K s) (hl : K ≤ L) : InS L s := ⟨h.len, h.p0, by have := h.p1; omega, h.s0, h.s1⟩
theorem tmod_r (x n : Int) (h0 : 0 ≤ x) (hn : 0 < n) : 0 ≤ x.tmod n ∧ x.tmod n < n := ⟨Int.tmod_nonneg _ h0, Int.tmod_lt_of_pos _ hn⟩
theorem byte_draw (N : Nat) {K : Nat} (hK : K ≤ 1000000000) {s : SrcT} (h : InS K s) : ∃ s' v, g_bv N s = some (s', v) ∧ InS (K + 1) s' ∧ 0 ≤ v ∧ v ≤ 255 := by
  obtain ⟨code, pos, seed⟩ := s
  obtain ⟨h1, h2, h3, h4, h5⟩ := h
  dsimp only at h1 h2 h3 h4 h5
  unfold g_bv
  dsimp only
  obtain ⟨p, rfl⟩ : ∃ p : Nat, pos = (p : Int) := ⟨pos.toNat, by omega⟩
  have e1 : wi ((p : Int) + 1) = ((p + 1 : Nat) : Int) := by rw [wi_of] <;> omega
  have e2 : wi (((p + 1 : Nat) : Int) - 1) = (p : Int) := by rw [wi_of] <;> omega
  rw [e1, e2]
  by_cases hp : p < code.length
  · have hb := (code[p]).toNat_lt
    simp (disch := omega) only [dec_t, cond_true, gd_true, Int.toNat_natCast, get_t, Option.bind_some, wi_u8, wi_of]
    have q := tmod_r (seed * 31 + (code[p].toNat : Int) + 7) 2147483648 (by omega) (by omega)
    exact ⟨_, _, rfl, ⟨h1, by dsimp only; omega, by dsimp only; omega, q.1, q.2⟩, by omega, by omega⟩
  · by_cases hq : 3000 < p + 1
    · simp (disch := omega) only [dec_t, dec_f, cond_true, cond_false, gd_true, Int.toNat_natCast, wi_u8, wi_of]
      exact ⟨_, _, rfl, ⟨h1, by dsimp only; omega, by dsimp only; omega, h4, h5⟩, by omega, by omega⟩
    · have q := tmod_r (seed * 1103515245 + 12345) 2147483648 (by omega) (by omega)
      have e3 : wi (wi (seed * 1103515245) + 12345) = seed * 1103515245 + 12345 := by rw [wi_of (x := seed * 1103515245) (by omega) (by omega), wi_of (by omega) (by omega)]
      rw [e3]
      generalize (seed * 1103515245 + 12345).tmod 2147483648 = z at q ⊢
      have q2 : z.tdiv 65536 = z / 65536 := Int.tdiv_eq_ediv_of_nonneg q.1
      have q3 := tmod_r (z / 65536) 256 (by omega) (by omega)
      simp (disch := omega) only [dec_t, dec_f, cond_false, gd_true, Int.toNat_natCast, wi_u8, wi_of, q2]
      exact ⟨_, _, rfl, ⟨h1, by dsimp only; omega, by dsimp only; omega, q.1, q.2⟩, q3.1, by omega⟩
theorem next_draw (N : Nat) {K : Nat} (hK : K ≤ 100000000) {s : SrcT} (h : InS K s) (n : Int) (h1 : 1 ≤ n) (h2 : n ≤ 1000000000) : ∃ s' v, g_by N s n = some (s', v) ∧ InS (K + 3) s' ∧ 0 ≤ v ∧ v < n := by
  unfold g_by
  by_cases e1 : n ≤ 1
  · rw [dec_t e1, cond_true]
    exact ⟨_, _, rfl, h.mono (by omega), by omega, by omega⟩
  · obtain ⟨s1, v1, d1, i1, a1, b1⟩ := byte_draw N (by omega) h
    rw [dec_f e1, cond_false, d1]
    by_cases e2 : n ≤ 256
    · have q := tmod_r v1 n a1 (by omega)
      simp (disch := omega) only [dec_t, cond_true, cond_false, Option.bind_some, wi_of, beq_fi]
      exact ⟨_, _, rfl, i1.mono (by omega), q.1, q.2⟩
    · obtain ⟨s2, v2, d2, i2, a2, b2⟩ := byte_draw N (by omega) i1
      obtain ⟨s3, v3, d3, i3, a3, b3⟩ := byte_draw N (by omega) i2
      have q := tmod_r (v1 * 65536 + v2 * 256 + v3) n (by omega) (by omega)
      simp (disch := omega) only [dec_f, cond_false, Option.bind_some, wi_of, beq_fi, d2, d3]
      exact ⟨_, _, rfl, i3, q.1, q.2⟩
theorem pick_draw (N : Nat) {K : Nat} (hK : K ≤ 100000000) {s : SrcT} (h : InS K s) (l : List (List UInt8)) (h1 : 1 ≤ l.length) (h2 : l.length ≤ 1000000000) : ∃ s' v, g_ca N s l = some (s', v) ∧ InS (K + 3) s' ∧ v ∈ l := by
  obtain ⟨s', v, d, i, a, b⟩ := next_draw N hK h (l.length : Int) (by omega) (by omega)
  have hv : v.toNat < l.length := by omega
  unfold g_ca
  simp (disch := omega) only [dec_t, cond_false, gd_true, get_t, Option.bind_some, beq_fi, d]
  exact ⟨_, _, rfl, i, List.getElem_mem hv⟩
theorem datum_draw (N : Nat) {K : Nat} (hK : K ≤ 100000000) {s : SrcT} (h : InS K s) : ∃ s' v, g_bw N s = some (s', v) ∧ InS (K + 3) s' ∧ v.length ≤ 16 := by
  unfold g_bw
  obtain ⟨s', v, d, i, m⟩ := pick_draw N hK h ([([] : List UInt8), ([97, 98, 99] : List UInt8), ([98, 108, 111, 99, 107, 32, 111, 102, 32, 100, 97, 116, 97] : List UInt8), ([48, 49, 50, 51, 52, 53, 54, 55, 56, 57, 97, 98, 99, 100, 101, 102] : List UInt8), ([120] : List UInt8)] : List (List UInt8)) (by simp) (by simp)
  rw [d]
  refine ⟨_, _, rfl, i, ?_⟩
  simp only [List.mem_cons, List.not_mem_nil, or_false] at m
  rcases m with rfl | rfl | rfl | rfl | rfl <;> simp
end Go.Vm
/- Files: what the reference's calls and draws make is right. -/
set_option linter.unusedVariables false
set_option maxRecDepth 100000
namespace Go.Vm
theorem OKF.bd {c : List FileT} (h : OKF c) : bdFileS 1000000000 c := ⟨by have := h.len; omega, fun f hf => by obtain ⟨h1, h2⟩ := okOne_len (h.one f hf); exact ⟨by omega, by omega⟩⟩
theorem OKF.lt {c : List FileT} (h : OKF c) : c.length ≤ 1000000000 := by have := h.len; omega
theorem specUnder_eq (N : Nat) (p d : List UInt8) (hp : p.length ≤ 1000000000) (hd : d.length ≤ 1000000000) : g_cu N p d = some (underF p d) := by
  unfold g_cu underF
  by_cases h : d.length + 1 < p.length
  · simp (disch := omega) only [dec_t, decide_true, cond_true, gd_true, Bool.true_and, Bool.and_self, Int.toNat_natCast, nc1, wi_of, Nat.zero_le, List.drop_zero]
  · simp (disch := omega) only [dec_t, dec_f, cond_false, gd_true, Bool.true_and, Int.toNat_natCast, nc1, wi_of, Bool.false_and]
theorem put_l4t (N : Nat) (p : List UInt8) (d : Bool) (t : List UInt8) : ∀ (n : Nat) (c : List FileT) (k : Nat) (acc : List FileT), c.length ≤ k + n - 1 → 0 < n → k ≤ c.length → c.length ≤ 1000 → acc.length ≤ k + 1 →
    g_cr.l4 N n c true (k : Int) p d t acc = some (true, p, d, t, acc ++ (c.drop k).filter (fun y => !(y.1 == p)))
  | 0, _, _, _, _, h, _, _, _ => by omega
  | n + 1, c, k, acc, hn, _, hk, hc, ha => by
    unfold g_cr.l4
    by_cases h : k < c.length
    · simp (disch := omega) only [dec_t, cond_true, cond_false, gd_true, Bool.not_true, Int.toNat_natCast, get_t, Option.bind_some, bind_id, nc1, wi_of, room_t, List.length_append, List.length_cons, List.length_nil, drop_get h, List.filter_cons]
      cases he : (c[k].1 == p) with
      | true => simp only [Bool.not_true, cond_false]; exact put_l4t N p d t n c (k + 1) acc (by omega) (by omega) (by omega) hc (by omega)
      | false =>
        simp only [Bool.not_false, cond_true]
        rw [put_l4t N p d t n c (k + 1) _ (by omega) (by omega) (by omega) hc (by simp; omega)]
        simp
    · simp (disch := omega) only [dec_t, dec_f, cond_false, gd_true, Bool.not_true, Int.toNat_natCast, bind_id, nc1, wi_of, room_t, List.length_append, List.length_cons, List.length_nil, List.drop_of_length_le, List.filter_nil, List.append_nil]
theorem put_l4f (N : Nat) (p : List UInt8) (d : Bool) (t : List UInt8) : ∀ (n : Nat) (c : List FileT) (k : Nat) (acc : List FileT), c.length ≤ k + n - 1 → 0 < n → k ≤ c.length → c.length ≤ 1000 → acc.length ≤ k →
    ∃ b acc', g_cr.l4 N n c false (k : Int) p d t acc = some (b, p, d, t, acc') ∧ (bif !b then acc' ++ [(p, d, t)] else acc') = acc ++ putFl (p, d, t) (c.drop k) ∧ acc'.length ≤ 1002
  | 0, _, _, _, _, h, _, _, _ => by omega
  | n + 1, c, k, acc, hn, _, hk, hc, ha => by
    unfold g_cr.l4
    by_cases h : k < c.length
    · simp (disch := omega) only [dec_t, cond_true, gd_true, Bool.not_false, Int.toNat_natCast, get_t, Option.bind_some, bind_id, nc1, wi_of, room_t, List.length_append, List.length_cons, List.length_nil, drop_get h, putFl]
      cases hl : Op.bytesLess c[k].1 p with
      | true =>
        have hne : (c[k].1 == p) = false := by
          have := RF.ne (a := c[k]) (b := (p, d, t)) hl
          simpa using this
        simp only [hne, Bool.not_true, Bool.not_false, cond_false, cond_true]
        obtain ⟨b, acc', e1, e2, e3⟩ := put_l4f N p d t n c (k + 1) (acc ++ [c[k]]) (by omega) (by omega) (by omega) hc (by simp; omega)
        exact ⟨b, acc', e1, by rw [e2]; simp, e3⟩
      | false =>
        simp only [Bool.not_false, cond_true, cond_false]
        rw [← drop_get h]
        have hx : ((c.drop (k + 1)).filter (fun y : FileT => !(y.1 == p))).length ≤ c.length - (k + 1) := Nat.le_trans (List.length_filter_le _ _) (by simp)
        cases he : (c[k].1 == p) with
        | true =>
          simp only [Bool.not_true, cond_false]
          rw [put_l4t N p d t n c (k + 1) _ (by omega) (by omega) (by omega) hc (by simp; omega)]
          have e4 : (c.drop k).filter (fun y => !(y.1 == p)) = (c.drop (k + 1)).filter (fun y => !(y.1 == p)) := by
            rw [drop_get h, List.filter_cons, he]; rfl
          refine ⟨_, _, rfl, ?_, ?_⟩
          · rw [e4]; simp
          · simp only [List.length_append, List.length_cons, List.length_nil]; omega
        | false =>
          simp only [Bool.not_false, cond_true]
          rw [put_l4t N p d t n c (k + 1) _ (by omega) (by omega) (by omega) hc (by simp; omega)]
          have e4 : (c.drop k).filter (fun y => !(y.1 == p)) = c[k] :: (c.drop (k + 1)).filter (fun y => !(y.1 == p)) := by
            rw [drop_get h, List.filter_cons, he]; rfl
          refine ⟨_, _, rfl, ?_, ?_⟩
          · rw [e4]; simp
          · simp only [List.length_append, List.length_cons, List.length_nil]; omega
    · simp (disch := omega) only [dec_t, dec_f, cond_true, cond_false, gd_true, Bool.not_false, Int.toNat_natCast, bind_id, nc1, wi_of, room_t, List.length_append, List.length_cons, List.length_nil, List.drop_of_length_le, putFl]
      exact ⟨_, _, rfl, rfl, by omega⟩
theorem specPut_eq {N : Nat} (hN : 18446744073709551616 ≤ N) (c : List FileT) (f : FileT) (hc : c.length ≤ 1000) : g_cr N c f = some (putFl f c) := by
  unfold g_cr
  obtain ⟨b, acc', e1, e2, e3⟩ := put_l4f N f.1 f.2.1 f.2.2 N c 0 [] (by omega) (by omega) (by omega) hc (by simp)
  rw [Int.natCast_zero] at e1
  rw [e1, Option.bind_some]
  rw [List.drop_zero, List.nil_append] at e2
  cases b with
  | true => simp only [Bool.not_true, cond_false] at e2 ⊢; rw [e2]
  | false =>
    simp only [Bool.not_false, cond_true] at e2 ⊢
    rw [room_t (by simp; omega), gd_true, e2]
def newF (c : List FileT) (p : List UInt8) : Int := bif homeF c (parF p) != 0 then homeF c (parF p) else bif decide (c.length = 12) then 7 else 0
theorem specNew_eq {N : Nat} (hN : 18446744073709551616 ≤ N) (c : List FileT) (p : List UInt8) (hc : c.length ≤ 1000000000) (hp : p.length ≤ 1000000000) : g_co N c p = some (newF c p) := by
  unfold g_co newF
  rw [specParent_eq hN p hp, Option.bind_some, specHome_eq hN c _ hc, Option.bind_some]
  cases homeF c (parF p) != 0 with
  | true => rfl
  | false =>
    rw [cond_false, cond_false]
    by_cases h : c.length = 12
    · rw [dec_t h, beq_ti (show (c.length : Int) = 12 by omega)]; rfl
    · rw [dec_f h, beq_fi (show (c.length : Int) ≠ 12 by omega)]; rfl
theorem newF_zero {c : List FileT} {p : List UInt8} (h : newF c p = 0) (ho : OKF c) : homeF c (parF p) = 0 ∧ c.length ≤ 11 := by
  unfold newF at h
  by_cases h1 : homeF c (parF p) = 0
  · refine ⟨h1, ?_⟩
    rw [bne_fi h1, cond_false] at h
    by_cases h2 : c.length = 12
    · rw [dec_t h2] at h; cases h
    · have := ho.len; omega
  · rw [bne_ti h1, cond_true] at h; exact absurd h h1
theorem okPath_len {p : List UInt8} (h : okPath p = true) : p.length ≤ 40 := (okPath_parts h).1
theorem mkdir_ok {N : Nat} (hN : 18446744073709551616 ≤ N) {c : List FileT} {p : List UInt8} (h : OKF c) (hp : okPath p = true) : ∃ c' e, g_cm N c p = some (c', e) ∧ OKF c' := by
  have hpl := okPath_len hp
  unfold g_cm
  rw [specFind_eq hN c p h.lt, Option.bind_some]
  cases hf : fdF p c 0 with
  | some j =>
    rw [dec_t (show ((j : Int) ≥ 0) by omega), cond_true]; exact ⟨_, _, rfl, h⟩
  | none =>
    rw [dec_f (show ¬ ((-1 : Int) ≥ 0) by omega), cond_false, specNew_eq hN c p h.lt (by omega), Option.bind_some]
    by_cases h0 : newF c p = 0
    · obtain ⟨h1, h2⟩ := newF_zero h0 h
      rw [bne_fi h0, cond_false, specPut_eq hN c _ (by omega), Option.bind_some]
      exact ⟨_, _, rfl, put_ok h (by unfold okOne; rw [hp]; rfl) ((homeF_zero h.pw _).1 h1) (.inl h2) (.inl rfl)⟩
    · rw [bne_ti h0, cond_true]; exact ⟨_, _, rfl, h⟩
/-! ### Moving -/
theorem move_l17 (N : Nat) (a b : List UInt8) (ha : a.length ≤ 40) (hb : b.length ≤ 40) (c : List FileT) (hc : c.length ≤ 12) (ho : ∀ f ∈ c, okOne f = true) : ∀ (n k : Nat) (out mov : List FileT), c.length ≤ k + n - 1 → 0 < n → k ≤ c.length → out.length ≤ k → mov.length ≤ k →
    (∃ e, g_cn.l17 N n a b (k : Int) c out mov = some (.inl (e, c))) ∨
    (g_cn.l17 N n a b (k : Int) c out mov = some (.inr (out ++ (c.drop k).filter (outB a b), mov ++ ((c.drop k).filter (selB a)).map (mvF a b))) ∧ ∀ x ∈ c.drop k, selB a x = true → (mvF a b x).1.length ≤ 40)
  | 0, _, _, _, _, h, _, _, _ => by omega
  | n + 1, k, out, mov, hn, _, hk, h1, h2 => by
    unfold g_cn.l17
    by_cases h : k < c.length
    · obtain ⟨l1, l2⟩ := okOne_len (ho _ (List.getElem_mem h))
      have hu := specUnder_eq N c[k].1 a (by omega) (by omega)
      simp (disch := omega) only [dec_t, cond_true, gd_true, Bool.and_true, Int.toNat_natCast, get_t, Option.bind_some, bind_id, nc1, wi_of, room_t, List.length_append, List.length_cons, List.length_nil, List.length_take, List.length_drop, drop_get h, List.filter_cons, hu]
      by_cases he : c[k].1 = a
      · have e1 : (c[k].1 == a) = true := by simp [he]
        have e2 : selB a c[k] = true := by unfold selB; rw [e1]; rfl
        have e3 : outB a b c[k] = false := by unfold outB; rw [e2]; rfl
        have e4 : mvF a b c[k] = (b, c[k].2) := by unfold mvF; rw [he]; simp
        rw [e1, cond_true]
        simp only [e2, e3, if_true, List.map_cons, e4]
        rcases move_l17 N a b ha hb c hc ho n (k + 1) out (mov ++ [(b, c[k].2)]) (by omega) (by omega) (by omega) (by omega) (by simp; omega) with ih | ⟨ih1, ih2⟩
        · exact .inl ih
        · refine .inr ⟨?_, ?_⟩
          · rw [ih1]; simp
          · intro x hx hs
            rcases List.mem_cons.1 hx with rfl | hx
            · rw [e4]; exact hb
            · exact ih2 x hx hs
      · have e1 : (c[k].1 == a) = false := by simp [he]
        rw [e1, cond_false]
        cases hus : underF c[k].1 a with
        | true =>
          have e2 : selB a c[k] = true := by unfold selB; rw [e1, hus]; rfl
          have e3 : outB a b c[k] = false := by unfold outB; rw [e2]; rfl
          have e5 := congrArg List.length (sel_pre e2)
          rw [List.length_append] at e5
          have e4 : (b ++ (c[k].1.take c[k].1.length).drop a.length, c[k].2) = mvF a b c[k] := by rw [List.take_length]; rfl
          have e8 : a.length ≤ c[k].1.length := by omega
          have e9 : b.length + (min c[k].1.length c[k].1.length - a.length) = (mvF a b c[k]).1.length := by unfold mvF; simp
          rw [cond_true, dec_t e8, gd_true, e9, e4]
          by_cases hl : (mvF a b c[k]).1.length ≤ 40
          · rw [dec_f (show ¬ (((mvF a b c[k]).1.length : Int) > 40) by omega), cond_false]
            simp only [e2, e3, if_true, List.map_cons]
            rcases move_l17 N a b ha hb c hc ho n (k + 1) out (mov ++ [mvF a b c[k]]) (by omega) (by omega) (by omega) (by omega) (by simp; omega) with ih | ⟨ih1, ih2⟩
            · exact .inl ih
            · refine .inr ⟨?_, ?_⟩
              · rw [ih1]; simp
              · intro x hx hs
                rcases List.mem_cons.1 hx with rfl | hx
                · exact hl
                · exact ih2 x hx hs
          · rw [dec_t (show (((mvF a b c[k]).1.length : Int) > 40) by omega), cond_true]
            exact .inl ⟨_, rfl⟩
        | false =>
          have e2 : selB a c[k] = false := by unfold selB; rw [e1, hus]; rfl
          rw [cond_false]
          by_cases hx : c[k].1 = b
          · have e5 : (c[k].1 == b) = true := by simp [hx]
            have e3 : outB a b c[k] = false := by unfold outB; rw [e2, e5]; rfl
            simp only [e5, Bool.not_true, cond_false, e2, e3]
            rcases move_l17 N a b ha hb c hc ho n (k + 1) out mov (by omega) (by omega) (by omega) (by omega) (by omega) with ih | ⟨ih1, ih2⟩
            · exact .inl ih
            · refine .inr ⟨?_, ?_⟩
              · rw [ih1]; simp
              · intro x hx hs
                rcases List.mem_cons.1 hx with rfl | hx
                · rw [e2] at hs; cases hs
                · exact ih2 x hx hs
          · have e5 : (c[k].1 == b) = false := by simp [hx]
            have e3 : outB a b c[k] = true := by unfold outB; rw [e2, e5]; rfl
            simp only [e5, Bool.not_false, cond_true, e2, e3, if_true]
            rcases move_l17 N a b ha hb c hc ho n (k + 1) (out ++ [c[k]]) mov (by omega) (by omega) (by omega) (by simp; omega) (by omega) with ih | ⟨ih1, ih2⟩
            · exact .inl ih
            · refine .inr ⟨?_, ?_⟩
              · rw [ih1]; simp
              · intro x hx hs
                rcases List.mem_cons.1 hx with rfl | hx
                · rw [e2] at hs; cases hs
                · exact ih2 x hx hs
    · refine .inr ⟨?_, ?_⟩
      · simp (disch := omega) only [dec_t, dec_f, cond_false, gd_true, Bool.and_true, Int.toNat_natCast, bind_id, nc1, wi_of, room_t, List.length_append, List.length_cons, List.length_nil, List.length_take, List.length_drop, List.drop_of_length_le, List.filter_nil, List.map_nil, List.append_nil]
      · rw [List.drop_of_length_le (by omega)]; intro x hx; cases hx
theorem move_l31 {N : Nat} (hN : 18446744073709551616 ≤ N) (ms : List FileT) (hm : ms.length ≤ 12) : ∀ (n k : Nat) (c : List FileT), ms.length ≤ k + n - 1 → 0 < n → k ≤ ms.length → c.length ≤ 12 + k →
    g_cn.l31 N n (k : Int) c ms = some (putAll c (ms.drop k))
  | 0, _, _, _, h, _, _ => by omega
  | n + 1, k, c, hn, _, hk, hc => by
    unfold g_cn.l31
    by_cases h : k < ms.length
    · have hl := put_len1 ms[k] c
      simp (disch := omega) only [dec_t, cond_true, gd_true, Int.toNat_natCast, get_t, Option.bind_some, bind_id, nc1, wi_of, drop_get h, specPut_eq hN c ms[k] (by omega), move_l31 hN ms hm n (k + 1) _ (by omega) (by omega) (by omega) (show (putFl ms[k] c).length ≤ 12 + (k + 1) by omega)]
      rfl
    · simp (disch := omega) only [dec_t, dec_f, cond_false, gd_true, Int.toNat_natCast, bind_id, nc1, wi_of, List.drop_of_length_le]; rfl
theorem mv_ok {N : Nat} (hN : 18446744073709551616 ≤ N) {c : List FileT} {a b : List UInt8} (h : OKF c) (ha : okPath a = true) (hb : okPath b = true) : ∃ c' e, g_cn N c a b = some (c', e) ∧ OKF c' := by
  have hal := okPath_len ha
  have hbl := okPath_len hb
  have hlen := h.len
  unfold g_cn
  rw [specFind_eq hN c a h.lt, Option.bind_some]
  cases hf : fdF a c 0 with
  | none => rw [dec_t (show ((-1 : Int) < 0) by omega), cond_true]; exact ⟨_, _, rfl, h⟩
  | some i =>
    have hi := (fdF_lt a c 0 i hf).2
    dsimp only
    rw [dec_f (show ¬ ((i : Int) < 0) by omega), cond_false]
    cases hab : a == b with
    | true => exact ⟨_, _, rfl, h⟩
    | false =>
      rw [cond_false, specUnder_eq N b a (by omega) (by omega), Option.bind_some]
      cases hu : underF b a with
      | true => exact ⟨_, _, rfl, h⟩
      | false =>
        rw [cond_false, specParent_eq hN b (by omega), Option.bind_some, specHome_eq hN c _ h.lt, Option.bind_some]
        by_cases hh : homeF c (parF b) = 0
        · rw [bne_fi hh, cond_false, specFind_eq hN c b h.lt, Option.bind_some]
          have fin : (∀ x ∈ c, x.1 = b → x.2.1 = false) → ∃ c' e, ((g_cn.l17 N N a b 0 c [] []).bind fun r14 => alt r14 (fun y15 => some (y15.2, y15.1)) fun z16 => (g_cn.l31 N N 0 z16.1 z16.2).bind fun r17 => some (r17, (0 : Int))) = some (c', e) ∧ OKF c' := by
            intro hT
            rcases move_l17 N a b hal hbl c h.len h.one N 0 [] [] (by omega) (by omega) (by omega) (by simp) (by simp) with ⟨e, he⟩ | ⟨he, hl⟩
            · rw [Int.natCast_zero] at he
              rw [he]; exact ⟨_, _, rfl, h⟩
            · rw [Int.natCast_zero, List.drop_zero] at he
              rw [List.drop_zero] at hl
              have hp := part_len a b c
              have hk := move_l31 hN ((c.filter (selB a)).map (mvF a b)) (by rw [List.length_map]; omega) N 0 (c.filter (outB a b)) (by rw [List.length_map]; omega) (by omega) (by omega) (by omega)
              rw [Int.natCast_zero, List.drop_zero] at hk
              rw [he, List.nil_append, List.nil_append, Option.bind_some, alt_inr, hk]
              exact ⟨_, _, rfl, move_ok h ha hb hu hh hT hl⟩
          cases hg : fdF b c 0 with
          | none =>
            rw [dec_f (show ¬ ((-1 : Int) ≥ 0) by omega), cond_false]
            exact fin fun x hx e => absurd e ((fdF_none b c 0).1 hg x hx)
          | some j =>
            have hj := (fdF_lt b c 0 j hg).2
            obtain ⟨_, f, g1, g2⟩ := fdF_get b c 0 j hg
            rw [Nat.sub_zero] at g1
            simp (disch := omega) only [dec_t, cond_true, gd_true, Int.toNat_natCast, Option.bind_some, g1, List.getElem?_eq_getElem (show i < c.length by omega)]
            cases hd : f.2.1 with
            | true => exact ⟨_, _, rfl, h⟩
            | false =>
              rw [cond_false]
              cases c[i].2.1 with
              | true => exact ⟨_, _, rfl, h⟩
              | false =>
                rw [cond_false]
                exact fin fun x hx e => by
                  have := pw_uniq h.pw hx (List.mem_of_getElem? g1) (e.trans g2.symm)
                  rw [this]; exact hd
        · rw [bne_ti hh, cond_true]; exact ⟨_, _, rfl, h⟩
/-! ### Removing, cutting, writing -/
theorem rem_l5 (N : Nat) (a : List UInt8) (z : Int) (ha : a.length ≤ 40) (c : List FileT) (hc : c.length ≤ 12) (ho : ∀ f ∈ c, okOne f = true) : ∀ (n k : Nat), c.length ≤ k + n - 1 → 0 < n → k ≤ c.length →
    (∃ e, g_ct.l5 N n a z (k : Int) c = some (.inl (e, c))) ∨ (g_ct.l5 N n a z (k : Int) c = some (.inr c) ∧ ∀ x ∈ c.drop k, underF x.1 a = false)
  | 0, _, _, h, _ => by omega
  | n + 1, k, hn, _, hk => by
    unfold g_ct.l5
    by_cases h : k < c.length
    · obtain ⟨l1, l2⟩ := okOne_len (ho _ (List.getElem_mem h))
      have hu := specUnder_eq N c[k].1 a (by omega) (by omega)
      simp (disch := omega) only [dec_t, cond_true, gd_true, Int.toNat_natCast, get_t, Option.bind_some, bind_id, nc1, wi_of, drop_get h, hu]
      cases hus : underF c[k].1 a with
      | true => exact .inl ⟨_, rfl⟩
      | false =>
        rcases rem_l5 N a z ha c hc ho n (k + 1) (by omega) (by omega) (by omega) with ih | ⟨ih1, ih2⟩
        · exact .inl ih
        · refine .inr ⟨ih1, fun x hx => ?_⟩
          rcases List.mem_cons.1 hx with rfl | hx
          · exact hus
          · exact ih2 x hx
    · refine .inr ⟨?_, ?_⟩
      · simp (disch := omega) only [dec_t, dec_f, cond_false, gd_true, Int.toNat_natCast, bind_id, nc1, wi_of]
      · rw [List.drop_of_length_le (by omega)]; intro x hx; cases hx
theorem rm_ok {N : Nat} (hN : 18446744073709551616 ≤ N) {c : List FileT} {a : List UInt8} (h : OKF c) (ha : okPath a = true) : ∃ c' e, g_ct N c a = some (c', e) ∧ OKF c' := by
  have hal := okPath_len ha
  have hlen := h.len
  unfold g_ct
  rw [specFind_eq hN c a h.lt, Option.bind_some]
  cases hf : fdF a c 0 with
  | none => rw [dec_t (show ((-1 : Int) < 0) by omega), cond_true]; exact ⟨_, _, rfl, h⟩
  | some i =>
    have hi := (fdF_lt a c 0 i hf).2
    obtain ⟨_, f, g1, g2⟩ := fdF_get a c 0 i hf
    rw [Nat.sub_zero] at g1
    dsimp only
    rw [dec_f (show ¬ ((i : Int) < 0) by omega), cond_false]
    rcases rem_l5 N a (i : Int) hal c h.len h.one N 0 (by omega) (by omega) (by omega) with ⟨e, he⟩ | ⟨he, hu⟩
    · rw [Int.natCast_zero] at he
      rw [he]; exact ⟨_, _, rfl, h⟩
    · rw [Int.natCast_zero] at he
      rw [he, Option.bind_some, alt_inr]
      rw [List.drop_zero] at hu
      have hk := rem_ok h g1 (by rw [g2]; exact hu)
      simp (disch := omega) only [dec_t, decide_true, gd_true, Bool.and_self, Int.toNat_natCast, nc1, wi_of, room_t, List.length_take, List.length_drop, Nat.zero_le, List.drop_zero, Nat.sub_zero, List.nil_append]
      refine ⟨_, _, rfl, ?_⟩
      rw [List.take_of_length_le (l := c.drop (i + 1)) (by simp)]
      exact hk
theorem file_ok {N : Nat} (hN : 18446744073709551616 ≤ N) {c : List FileT} (a : List UInt8) (h : OKF c) : (∃ k e, g_cj N c a = some (k, e) ∧ e ≠ 0) ∨ ∃ (j : Nat) (f : FileT), g_cj N c a = some ((j : Int), 0) ∧ c[j]? = some f ∧ f.1 = a ∧ f.2.1 = false ∧ j < c.length := by
  unfold g_cj
  rw [specFind_eq hN c a h.lt, Option.bind_some]
  cases hf : fdF a c 0 with
  | none => rw [dec_t (show ((-1 : Int) < 0) by omega), cond_true]; exact .inl ⟨_, _, rfl, by decide⟩
  | some i =>
    have hi := (fdF_lt a c 0 i hf).2
    obtain ⟨_, f, g1, g2⟩ := fdF_get a c 0 i hf
    rw [Nat.sub_zero] at g1
    simp (disch := omega) only [dec_t, dec_f, cond_false, gd_true, Int.toNat_natCast, Option.bind_some, g1]
    cases hd : f.2.1 with
    | true => exact .inl ⟨_, _, rfl, by decide⟩
    | false => exact .inr ⟨i, f, rfl, g1, g2, hd, by omega⟩
theorem filled_ok {c : List FileT} {f : FileT} (h : OKF c) (hf : f ∈ c) (hd : f.2.1 = false) (t : List UInt8) (ht : t.length ≤ 200) : OKF (putFl (f.1, f.2.1, t) c) := by
  refine put_ok h ?_ (h.home f hf) (.inr ⟨f, hf, rfl⟩) (.inr fun x hx e => by rw [pw_uniq h.pw hx hf e]; exact hd)
  unfold okOne
  rw [okPath_of_one (h.one f hf), hd, dec_t ht]; rfl
theorem cut_ok {N : Nat} (hN : 18446744073709551616 ≤ N) {c : List FileT} (a : List UInt8) (h : OKF c) (n : Int) : ∃ c' e, g_ci N c a n = some (c', e) ∧ OKF c' := by
  unfold g_ci
  have hlen := h.len
  rcases file_ok hN a h with ⟨k, e, e1, e2⟩ | ⟨j, f, e1, g1, g2, hd, hj⟩
  · rw [e1, Option.bind_some, bne_ti e2, cond_true]; exact ⟨_, _, rfl, h⟩
  · rw [e1, Option.bind_some, bne_fi rfl, cond_false, l01In_eq, Option.bind_some]
    by_cases hn : 0 ≤ n ∧ n ≤ 200
    · obtain ⟨m, rfl⟩ : ∃ m : Nat, n = (m : Int) := ⟨n.toNat, by omega⟩
      have hm := List.mem_of_getElem? g1
      obtain ⟨l1, l2⟩ := okOne_len (h.one f hm)
      obtain ⟨v, hv⟩ : ∃ v : Nat, max 0 (wi ((m : Int) - (f.2.2.length : Int))) = (v : Int) ∧ m ≤ f.2.2.length + v ∧ v ≤ 1000 := by
        rw [wi_of (by omega) (by omega)]
        exact ⟨(max 0 ((m : Int) - (f.2.2.length : Int))).toNat, by omega, by omega, by omega⟩
      simp (disch := omega) only [dec_t, decide_true, cond_false, gd_true, Bool.not_true, Bool.true_and, Bool.and_self, Int.toNat_natCast, Option.bind_some, wi_of, room_t, List.length_append, List.length_replicate, g1, Nat.zero_le, List.drop_zero, Nat.sub_zero]
      rw [specPut_eq hN c _ (by omega)]
      exact ⟨_, _, rfl, filled_ok h hm hd _ (by simp; omega)⟩
    · by_cases h0 : 0 ≤ n
      · rw [dec_t h0, dec_f (show ¬ (n ≤ 200) by omega)]; exact ⟨_, _, rfl, h⟩
      · rw [dec_f h0]; exact ⟨_, _, rfl, h⟩
theorem write_l14 (N : Nat) (at_ : Nat) (data : List UInt8) (h1 : at_ + data.length ≤ 1000) (m2 : List FileT) (m3 : List UInt8) (m4 : Bool) (m5 : List UInt8) : ∀ (n : Nat) (b : List UInt8), at_ + data.length ≤ b.length + n - 1 → 0 < n → b.length ≤ 1000 →
    ∃ b', g_cv.l14 N n (at_ : Int) data m2 m3 m4 m5 b = some (m2, m3, m4, m5, b') ∧ at_ + data.length ≤ b'.length ∧ b'.length ≤ max b.length (at_ + data.length)
  | 0, b, _, hn, hb => by omega
  | n + 1, b, hn, _, hb => by
    unfold g_cv.l14
    have w : wi ((at_ : Int) + (data.length : Int)) = ((at_ + data.length : Nat) : Int) := by rw [wi_of (by omega) (by omega)]; omega
    dsimp only
    rw [w]
    by_cases h : b.length < at_ + data.length
    · rw [dec_t (show (b.length : Int) < ((at_ + data.length : Nat) : Int) by omega), cond_true, room_t (by omega), gd_true, bind_id]
      obtain ⟨b', e1, e2, e3⟩ := write_l14 N at_ data h1 m2 m3 m4 m5 n (b ++ [0]) (by simp; omega) (by omega) (by simp; omega)
      exact ⟨b', e1, e2, by simp at e3; omega⟩
    · rw [dec_f (show ¬ ((b.length : Int) < ((at_ + data.length : Nat) : Int)) by omega), cond_false]
      exact ⟨b, rfl, by omega, by omega⟩
theorem write_l17 (N : Nat) (at_ : Nat) (data : List UInt8) (h1 : at_ + data.length ≤ 1000) (m2 : List FileT) (m3 : List UInt8) (m4 : Bool) (m5 : List UInt8) : ∀ (n k : Nat) (b : List UInt8), data.length ≤ k + n - 1 → 0 < n → k ≤ data.length → at_ + data.length ≤ b.length →
    ∃ b', g_cv.l17 N n (at_ : Int) data (k : Int) m2 m3 m4 m5 b = some (m2, m3, m4, m5, b') ∧ b'.length = b.length
  | 0, _, _, _, h, _, _ => by omega
  | n + 1, k, b, hn, _, hk, hb => by
    unfold g_cv.l17
    by_cases h : k < data.length
    · have w : wi ((at_ : Int) + (k : Int)) = ((at_ + k : Nat) : Int) := by rw [wi_of (by omega) (by omega)]; omega
      obtain ⟨b', e1, e2⟩ := write_l17 N at_ data h1 m2 m3 m4 m5 n (k + 1) (b.set (at_ + k) data[k]) (by omega) (by omega) (by omega) (by simp; omega)
      rw [dec_t (show (k : Int) < (data.length : Int) by omega), cond_true, dec_t (show (0 : Int) ≤ (k : Int) by omega), gd_true, Int.toNat_natCast, get_t h, Option.bind_some, w, dec_t (show (0 : Int) ≤ ((at_ + k : Nat) : Int) by omega), gd_true, Int.toNat_natCast,
        dec_t (show at_ + k < b.length by omega), gd_true, get_t (show at_ + k < b.length by omega), Option.bind_some]
      dsimp only
      rw [bind_id, wi_succ (by omega), e1]
      exact ⟨_, rfl, by rw [e2]; simp⟩
    · exact ⟨b, by simp (disch := omega) only [dec_t, dec_f, cond_false, gd_true, Int.toNat_natCast, bind_id, nc1, wi_of], rfl⟩
theorem write_ok {N : Nat} (hN : 18446744073709551616 ≤ N) {c : List FileT} {a : List UInt8} (h : OKF c) (ha : okPath a = true) (z : Int) (hz1 : -1000000 ≤ z) (hz2 : z ≤ 1000000) (data : List UInt8) (hd : data.length ≤ 1000) : ∃ c' e, g_cv N c a z data = some (c', e) ∧ OKF c' := by
  have hal := okPath_len ha
  have hlen := h.len
  unfold g_cv
  rw [specFind_eq hN c a h.lt, Option.bind_some]
  have w : wi (z + (data.length : Int)) = z + (data.length : Int) := wi_of (by omega) (by omega)
  dsimp only
  rw [w]
  have wr : ∀ (k : Nat), z = (k : Int) → k + data.length ≤ 200 → ∀ (p : List UInt8) (d : Bool) (t : List UInt8), t.length ≤ 200 → (∀ b' : List UInt8, b'.length ≤ 200 → OKF (putFl (p, d, b') c)) →
      ∃ c' e, ((g_cv.l14 N N z data c p d t t).bind fun r19 => (g_cv.l17 N N z data 0 r19.1 r19.2.1 r19.2.2.1 r19.2.2.2.1 r19.2.2.2.2).bind fun r20 => (g_cr N r20.1 (r20.2.1, r20.2.2.1, r20.2.2.2.2)).bind fun r21 => some (r21, (0 : Int))) = some (c', e) ∧ OKF c' := by
    intro k hk hl p d t ht hok
    subst hk
    obtain ⟨b1, e1, e2, e3⟩ := write_l14 N k data (by omega) c p d t N t (by omega) (by omega) (by omega)
    obtain ⟨b2, e4, e5⟩ := write_l17 N k data (by omega) c p d t N 0 b1 (by omega) (by omega) (by omega) e2
    rw [Int.natCast_zero] at e4
    rw [e1, Option.bind_some]
    dsimp only
    rw [e4, Option.bind_some, specPut_eq hN c _ (by omega)]
    exact ⟨_, _, rfl, hok b2 (by omega)⟩
  cases hf : fdF a c 0 with
  | none =>
    have hnone := (fdF_none a c 0).1 hf
    rw [dec_f (show ¬ ((-1 : Int) ≥ 0) by omega), cond_false]
    by_cases q1 : z < 0
    · rw [dec_t q1]; exact ⟨_, _, rfl, h⟩
    · by_cases q2 : z > 200
      · rw [dec_f q1, dec_t q2]; exact ⟨_, _, rfl, h⟩
      · by_cases q3 : z + (data.length : Int) > 200
        · rw [dec_f q1, dec_f q2, dec_t q3]; exact ⟨_, _, rfl, h⟩
        · rw [dec_f q1, dec_f q2, dec_f q3, cond_false, cond_false, cond_false, dec_t (show ((-1 : Int) < 0) by omega), cond_true, specNew_eq hN c a h.lt (by omega), Option.bind_some]
          by_cases h0 : newF c a = 0
          · obtain ⟨h1, h2⟩ := newF_zero h0 h
            rw [bne_fi h0, cond_false]
            refine wr z.toNat (by omega) (by omega) a false [] (by simp) fun b' hb' => ?_
            refine put_ok h ?_ ((homeF_zero h.pw _).1 h1) (.inl h2) (.inr fun x hx e => absurd e (hnone x hx))
            unfold okOne
            rw [ha, dec_t hb']; rfl
          · rw [bne_ti h0, cond_true]; exact ⟨_, _, rfl, h⟩
  | some j =>
    have hj := (fdF_lt a c 0 j hf).2
    obtain ⟨_, f, g1, g2⟩ := fdF_get a c 0 j hf
    rw [Nat.sub_zero] at g1
    have hm := List.mem_of_getElem? g1
    obtain ⟨l1, l2⟩ := okOne_len (h.one f hm)
    dsimp only
    rw [dec_t (show ((j : Int) ≥ 0) by omega), cond_true, gd_true, Int.toNat_natCast, dec_t (show j < c.length by omega), gd_true, g1, Option.bind_some]
    cases hd : f.2.1 with
    | true => exact ⟨_, _, rfl, h⟩
    | false =>
      rw [cond_false]
      by_cases q1 : z < 0
      · rw [dec_t q1]; exact ⟨_, _, rfl, h⟩
      · by_cases q2 : z > 200
        · rw [dec_f q1, dec_t q2]; exact ⟨_, _, rfl, h⟩
        · by_cases q3 : z + (data.length : Int) > 200
          · rw [dec_f q1, dec_f q2, dec_t q3]; exact ⟨_, _, rfl, h⟩
          · rw [dec_f q1, dec_f q2, dec_f q3, cond_false, cond_false, cond_false, dec_f (show ¬ ((j : Int) < 0) by omega), cond_false]
            refine wr z.toNat (by omega) (by omega) f.1 false f.2.2 l2 fun b' hb' => ?_
            have := filled_ok h hm hd b' hb'
            rw [hd] at this; exact this
end Go.Vm
/- Files: drawn files are right. -/
set_option linter.unusedVariables false
set_option maxRecDepth 100000
namespace Go.Vm
theorem path_draw (N : Nat) {K : Nat} (hK : K ≤ 100000000) {s : SrcT} (h : InS K s) : ∃ s' v, g_bz N s = some (s', v) ∧ InS (K + 3) s' ∧ okPath v = true := by
  unfold g_bz
  obtain ⟨s', v, d, i, m⟩ := pick_draw N hK h ([([97] : List UInt8), ([98] : List UInt8), ([100, 105, 114] : List UInt8), ([100, 105, 114, 47, 97] : List UInt8), ([100, 105, 114, 47, 98] : List UInt8), ([100, 105, 114, 47, 115, 117, 98] : List UInt8), ([100, 105, 114, 47, 115, 117, 98, 47, 120] : List UInt8), ([111, 116, 104, 101, 114] : List UInt8), ([111, 116, 104, 101, 114, 47, 97] : List UInt8)] : List (List UInt8)) (by simp) (by simp)
  rw [d]
  refine ⟨_, _, rfl, i, ?_⟩
  simp only [List.mem_cons, List.not_mem_nil, or_false] at m
  rcases m with rfl | rfl | rfl | rfl | rfl | rfl | rfl | rfl | rfl <;> decide
theorem dir_draw (N : Nat) {K : Nat} (hK : K ≤ 100000000) {s : SrcT} (h : InS K s) : ∃ s' v, g_ca N s ([([100, 105, 114] : List UInt8), ([111, 116, 104, 101, 114] : List UInt8), ([100, 105, 114, 47, 115, 117, 98] : List UInt8)] : List (List UInt8)) = some (s', v) ∧ InS (K + 3) s' ∧ okPath v = true := by
  obtain ⟨s', v, d, i, m⟩ := pick_draw N hK h ([([100, 105, 114] : List UInt8), ([111, 116, 104, 101, 114] : List UInt8), ([100, 105, 114, 47, 115, 117, 98] : List UInt8)] : List (List UInt8)) (by simp) (by simp)
  refine ⟨_, _, d, i, ?_⟩
  simp only [List.mem_cons, List.not_mem_nil, or_false] at m
  rcases m with rfl | rfl | rfl <;> decide
theorem files_l3 {N : Nat} (hN : 18446744073709551616 ≤ N) : ∀ (n i K : Nat) (s : SrcT) (c : List FileT), i < n → K + 12 * i ≤ 10000000 → InS K s → OKF c →
    ∃ (s' : SrcT) (c' : List FileT), g_bx.l3 N n (i : Int) s.1 s.2.1 s.2.2 c = some (s'.1, s'.2.1, s'.2.2, c') ∧ InS (K + 12 * i) s' ∧ OKF c'
  | 0, _, _, _, _, h, _, _, _ => by omega
  | n + 1, 0, K, s, c, _, hK, h, hc => by
    unfold g_bx.l3
    exact ⟨s, c, by simp, h.mono (by omega), hc⟩
  | n + 1, i + 1, K, s, c, hi, hK, h, hc => by
    unfold g_bx.l3
    obtain ⟨s1, p, d1, i1, k1⟩ := path_draw N (K := K) (by omega) (s := (s.1, s.2.1, s.2.2)) h
    obtain ⟨s2, v, d2, i2, a2, b2⟩ := next_draw N (by omega) i1 8 (by omega) (by omega)
    have again : ∀ (s3 : SrcT) (c3 : List FileT), InS (K + 12) s3 → OKF c3 → ∃ (s' : SrcT) (c' : List FileT), (g_bx.l3 N n (i : Int) s3.1 s3.2.1 s3.2.2 c3).bind some = some (s'.1, s'.2.1, s'.2.2, c') ∧ InS (K + 12 * (i + 1)) s' ∧ OKF c' := by
      intro s3 c3 h3 hc3
      obtain ⟨s', c', e1, e2, e3⟩ := files_l3 hN n i (K + 12) s3 c3 (by omega) (by omega) h3 hc3
      exact ⟨s', c', by rw [bind_id]; exact e1, e2.mono (by omega), e3⟩
    rw [dec_t (show ((i + 1 : Nat) : Int) > 0 by omega), cond_true, d1, Option.bind_some]
    dsimp only
    rw [d2, Option.bind_some]
    dsimp only
    have w : wi (((i + 1 : Nat) : Int) - 1) = (i : Int) := wi_pred (by omega)
    rw [w]
    by_cases v0 : v = 0
    · subst v0
      obtain ⟨s3, q, d3, i3, k3⟩ := dir_draw N (by omega) i2
      obtain ⟨c', e, e1, e2⟩ := mkdir_ok hN hc k3
      rw [beq_ti rfl, cond_true, cond_true, d3, Option.bind_some]
      dsimp only
      rw [e1, Option.bind_some]
      exact again s3 c' (i3.mono (by omega)) e2
    · rw [beq_fi v0, cond_false]
      by_cases v1 : v = 1
      · subst v1
        obtain ⟨s3, q, d3, i3, k3⟩ := dir_draw N (by omega) i2
        obtain ⟨c', e, e1, e2⟩ := mkdir_ok hN hc k3
        rw [beq_ti rfl, cond_true, d3, Option.bind_some]
        dsimp only
        rw [e1, Option.bind_some]
        exact again s3 c' (i3.mono (by omega)) e2
      · rw [beq_fi v1, cond_false]
        by_cases v2 : v = 2
        · subst v2
          obtain ⟨s3, q, d3, i3, k3⟩ := path_draw N (by omega) i2
          obtain ⟨c', e, e1, e2⟩ := mv_ok hN hc k1 k3
          rw [beq_ti rfl, cond_true, d3, Option.bind_some]
          dsimp only
          rw [e1, Option.bind_some]
          exact again s3 c' (i3.mono (by omega)) e2
        · rw [beq_fi v2, cond_false]
          by_cases v3 : v = 3
          · subst v3
            obtain ⟨c', e, e1, e2⟩ := rm_ok hN hc k1
            rw [beq_ti rfl, cond_true, e1, Option.bind_some]
            exact again s2 c' (i2.mono (by omega)) e2
          · rw [beq_fi v3, cond_false]
            by_cases v4 : v = 4
            · subst v4
              obtain ⟨s3, m, d3, i3, _, _⟩ := next_draw N (by omega) i2 9 (by omega) (by omega)
              obtain ⟨c', e, e1, e2⟩ := cut_ok hN p hc m
              rw [beq_ti rfl, cond_true, d3, Option.bind_some]
              dsimp only
              rw [e1, Option.bind_some]
              exact again s3 c' (i3.mono (by omega)) e2
            · obtain ⟨s3, m, d3, i3, m0, m1⟩ := next_draw N (by omega) i2 6 (by omega) (by omega)
              obtain ⟨s4, t, d4, i4, t1⟩ := datum_draw N (by omega) i3
              obtain ⟨c', e, e1, e2⟩ := write_ok hN hc k1 m (by omega) (by omega) t (by omega)
              rw [beq_fi v4, cond_false, d3, Option.bind_some]
              dsimp only
              rw [d4, Option.bind_some]
              dsimp only
              rw [e1, Option.bind_some]
              exact again s4 c' (i4.mono (by omega)) e2
theorem OKF.nil : OKF [] := ⟨by simp, List.Pairwise.nil, fun _ h => (by cases h), fun _ h => (by cases h)⟩
theorem files_draw {N : Nat} (hN : 18446744073709551616 ≤ N) {s : SrcT} {K : Nat} (hK : K ≤ 1000000) (h : InS K s) : ∃ s' c, g_bx N s = some (s', c) ∧ InS (K + 1000) s' ∧ OKF c := by
  have hs := h.len
  have q : (s.1.length : Int).tdiv 12 = (s.1.length : Int) / 12 := Int.tdiv_eq_ediv_of_nonneg (by omega)
  have e2 : g_cb N s 14 = some (min (1 + (s.1.length : Int) / 12) 14) := by
    unfold g_cb
    simp (disch := omega) only [q, wi_of]
  obtain ⟨s1, v1, d1, i1, a1, b1⟩ := next_draw N (by omega) h (min (1 + (s.1.length : Int) / 12) 14 + 4) (by omega) (by omega)
  obtain ⟨k, rfl⟩ : ∃ k : Nat, v1 = (k : Int) := ⟨v1.toNat, by omega⟩
  obtain ⟨s', c, e3, e4, e5⟩ := files_l3 hN N k (K + 3) s1 [] (by omega) (by omega) i1 OKF.nil
  have hl := e5.len
  unfold g_bx
  rw [e2, Option.bind_some, wi_of (by omega) (by omega), d1, Option.bind_some, e3, Option.bind_some]
  dsimp only
  rw [room_t (by omega), gd_true]
  exact ⟨_, _, rfl, e4.mono (by omega), by simpa using e5⟩
theorem source_ok' (N : Nat) (code : List UInt8) (hc : code.length ≤ 1048576) : ∃ s, g_bu N code = some s ∧ InS 0 s := by
  unfold g_bu
  have q := tmod_r (code.length : Int) 1000 (by omega) (by omega)
  exact ⟨_, rfl, hc, by simp, by simp, q.1, by dsimp only; omega⟩
theorem filesOf_draw {N : Nat} (hN : 18446744073709551616 ≤ N) (code : List UInt8) (hc : code.length ≤ 1048576) : ∃ c, g_bo N code = some c ∧ OKF c := by
  obtain ⟨s, e1, h⟩ := source_ok' N code hc
  obtain ⟨s', c, e2, _, e3⟩ := files_draw hN (by omega) h
  unfold g_bo
  rw [e1, Option.bind_some, e2]
  exact ⟨_, rfl, e3⟩
end Go.Vm
/- The laws' own helpers, printed by a program of ours. -/
set_option linter.unusedVariables false
set_option maxRecDepth 100000
namespace Go.Vm
end Go.Vm
/- Banks: what is right, their bytes, what is read. -/
set_option linter.unusedVariables false
set_option maxRecDepth 100000
namespace Go.Vm
end Go.Vm
/- What is read of a bank's bytes, by the program and by the reference. -/
set_option linter.unusedVariables false
set_option maxRecDepth 100000
namespace Go.Vm
theorem drop_take' {α : Type} (l : List α) (a b : Nat) : (l.take (a + b)).drop a = (l.drop a).take b := by rw [List.drop_take]; congr 1; omega
theorem numB_take1 (t : List UInt8) (k : Nat) (h : k < t.length) : (numB ((t.drop k).take 1) : Int) = (t[k].toNat : Int) := by
  rw [drop_get h, List.take_succ_cons, List.take_zero]; simp only [numB, List.foldl_cons, List.foldl_nil, Nat.zero_mul, Nat.zero_add]
theorem l06Number_l3 (N : Nat) : ∀ (n : Nat) (m k : Nat) (c : List UInt8), c.length ≤ k + n - 1 → 0 < n → k ≤ c.length → c.length ≤ 7 → m < 256 ^ k →
    g_cf.l3 N n c (m : Int) (k : Int) = some (((c.drop k).foldl (fun n c => n * 256 + c.toNat) m : Nat) : Int)
  | 0, _, _, _, _, h, _, _, _ => by omega
  | n + 1, m, k, c, hn, _, hk, hc, hm => by
    unfold g_cf.l3
    by_cases h : k < c.length
    · have hm2 : m < 36028797018963968 := Nat.lt_of_lt_of_le hm (Nat.le_trans (Nat.pow_le_pow_right (by omega) (show k ≤ 6 by omega)) (by decide))
      have hc' := c[k].toNat_lt
      simp (disch := omega) only [dec_t, cond_true, gd_true, Int.toNat_natCast, get_t, Option.bind_some, bind_id, nc1, wi_u8, wi_of]
      rw [show ((m : Int) * 256 + (c[k].toNat : Int)) = ((m * 256 + c[k].toNat : Nat) : Int) by omega, l06Number_l3 N n _ (k + 1) c (by omega) (by omega) (by omega) hc (by rw [Nat.pow_succ]; omega), drop_get h]
      rfl
    · simp (disch := omega) only [dec_t, dec_f, cond_false, gd_true, Int.toNat_natCast, bind_id, nc1, wi_u8, wi_of, List.drop_of_length_le, List.foldl_nil]
theorem l06Number_eq {N : Nat} (hN : 18446744073709551616 ≤ N) (c : List UInt8) (hc : c.length ≤ 7) : g_cf N c = some ((numB c : Nat) : Int) := by
  unfold g_cf
  have := l06Number_l3 N N 0 0 c (by omega) (by omega) (by omega) hc (by simp)
  simp only [Int.natCast_zero] at this
  rw [this]; rfl
theorem tkR_ok (b : List UInt8) (f : Bool) (n : Nat) (h : n ≤ b.length) : tkR (b, f) n = ((b.drop n, f), b.take n) := by
  unfold tkR; rw [if_neg (by simp; omega)]
theorem tkR_short (b : List UInt8) (f : Bool) (n : Nat) (h : b.length < n) : tkR (b, f) n = ((b, true), []) := by
  unfold tkR; rw [if_pos (by simpa using h)]
theorem tkR_fail (r : List UInt8 × Bool) (n : Nat) (h : r.2 = true) : (tkR r n).1.2 = true := by
  unfold tkR; split <;> simp [h]
end Go.Vm
/- A bank's bytes; the program reads what the reference reads. -/
set_option linter.unusedVariables false
set_option maxRecDepth 100000
namespace Go.Vm
def twoB (n : Int) : List UInt8 := [wb (n.tdiv 256), wb n]
theorem wb_wi (x : Int) : wb (wi x) = wb x := by
  apply wb_eq; unfold wi IntKind.wrap; simp [IntKind.bits, IntKind.signed]; omega
theorem l08Two_eq (N : Nat) (n : Int) : g_cg N n = some (twoB n) := by
  unfold g_cg twoB; simp only [wb_wi]
theorem isLong1_eq {N : Nat} (hN : 18446744073709551616 ≤ N) (t : List UInt8) : g_aq N [t] = some (decide (65536 < t.length)) := by
  have key : ∀ n c0 c1 m, g_bj.l2 N n c0 c1 m = idxL (g_ar N) n c0 c1 m := by
    intro n c0 c1
    induction n with
    | zero => intro m; rfl
    | succ n ih => intro m; simp only [g_bj.l2, idxL, ih]
  unfold g_aq g_bg g_bj
  rw [key, contains_eq (p := g_ar N) (q := fun r => decide ((r.length : Int) > 65536)) [t] (fun x _ => rfl) (by simp; omega) (by simp), bind_id]
  simp only [List.any_cons, List.any_nil, Bool.or_false, Option.some.injEq]
  by_cases h : 65536 < t.length
  · rw [dec_t h, dec_t (by omega)]
  · rw [dec_f h, dec_f (by omega)]
end Go.Vm
/- Words of 32 bits: turns, bytes of words; rounds. -/
set_option linter.unusedVariables false
namespace Go.Vm
end Go.Vm
/- SHA-256: numbers in bytes, turns, the schedule. -/
set_option linter.unusedVariables false
set_option maxRecDepth 100000
namespace Go.Vm
/-- A number's bytes, the higher ones first. -/
def bytesN : Nat → Int → List UInt8
  | 0, _ => []
  | s + 1, n => bytesN s (shr n 8) ++ [wb n]
theorem bytesOf_l3 (N : Nat) : ∀ (n s : Nat) (x : Int) (tl : List UInt8), s < n → s + tl.length ≤ 1000000 → g_ak.l3 N n x ((s : Int) - 1) (List.replicate s 0 ++ tl) = some (bytesN s x ++ tl)
  | 0, _, _, _, h, _ => by omega
  | n + 1, 0, x, tl, _, _ => by
    unfold g_ak.l3
    simp (disch := omega) only [dec_f, cond_false, bind_id, wi_of, Int.natCast_zero, List.replicate_zero, List.nil_append, bytesN]
  | n + 1, s + 1, x, tl, h, hl => by
    unfold g_ak.l3
    have e : (((s + 1 : Nat) : Int) - 1) = (s : Int) := by omega
    have e1 : (List.replicate (s + 1) (0 : UInt8) ++ tl)[s]? = some 0 := by
      rw [List.getElem?_append_left (by simp)]; simp
    have e2 : (List.replicate (s + 1) (0 : UInt8) ++ tl).set s (wb x) = List.replicate s 0 ++ (wb x :: tl) := by
      rw [List.replicate_succ', List.append_assoc, List.set_append_right _ _ (by simp)]
      simp
    rw [e]
    simp (disch := omega) only [dec_t, cond_true, gd_true, Int.toNat_natCast, Option.bind_some, bind_id, wi_of, List.length_append, List.length_replicate, e1, e2]
    rw [bytesOf_l3 N n s (shr x 8) (wb x :: tl) (by omega) (by simp only [List.length_cons]; omega), bytesN, List.append_assoc]
    rfl
theorem bytesOf_eq {N : Nat} (hN : 18446744073709551616 ≤ N) (x : Int) (s : Nat) (hs : s ≤ 1000) : g_ak N x (s : Int) = some (bytesN s x) := by
  unfold g_ak
  have := bytesOf_l3 N N s x [] (by omega) (by simp only [List.length_nil]; omega)
  rw [List.append_nil, List.append_nil] at this
  simp (disch := omega) only [dec_t, gd_true, Bool.and_self, Int.toNat_natCast, bind_id, wi_of, room_t, this]
end Go.Vm
/- Files: their bytes; what is read of bytes, by the program and by the reference. -/
set_option linter.unusedVariables false
set_option maxRecDepth 100000
namespace Go.Vm
/-! ### Bytes -/
theorem xO1 {N : Nat} (hN : 18446744073709551616 ≤ N) (x : Int) : g_ak N x 1 = some [wb x] := by
  have := bytesOf_eq hN x 1 (by omega)
  simpa [bytesN] using this
theorem xO2 {N : Nat} (hN : 18446744073709551616 ≤ N) (x : Nat) : g_ak N (x : Int) 2 = some (twoB (x : Int)) := by
  have := bytesOf_eq hN (x : Int) 2 (by omega)
  unfold twoB
  rw [Int.tdiv_eq_ediv_of_nonneg (by omega)]
  simpa [bytesN, shr8] using this
def bitF (b : Bool) : Int := bif b then 1 else 0
theorem l01Bit_eq (N : Nat) (b : Bool) : g_cd N b = some (bitF b) := by cases b <;> rfl
theorem flag_eq (N : Nat) (b : Bool) : g_ao N b = some (bitF b) := by cases b <;> rfl
def fileB (f : FileT) : List UInt8 := wb (f.1.length : Int) :: (f.1 ++ (wb (bitF f.2.1) :: (twoB (f.2.2.length : Int) ++ f.2.2)))
def bytesF (c : List FileT) : List UInt8 := wb (c.length : Int) :: c.flatMap fileB
theorem twoB_len (x : Int) : (twoB x).length = 2 := rfl
theorem specBytes_l3 (N : Nat) (c : List FileT) (hc : c.length ≤ 12) (ho : ∀ f ∈ c, okOne f = true) : ∀ (n k : Nat) (acc : List UInt8), c.length ≤ k + n - 1 → 0 < n → k ≤ c.length → acc.length ≤ 1 + 1000 * k →
    g_ch.l3 N n c (k : Int) acc = some (acc ++ (c.drop k).flatMap fileB)
  | 0, _, _, _, h, _, _ => by omega
  | n + 1, k, acc, hn, _, hk, ha => by
    unfold g_ch.l3
    by_cases h : k < c.length
    · obtain ⟨l1, l2⟩ := okOne_len (ho _ (List.getElem_mem h))
      rw [drop_get h, List.flatMap_cons]
      simp (disch := omega) only [dec_t, cond_true, gd_true, Int.toNat_natCast, get_t, Option.bind_some, bind_id, nc1, wi_of, room_t, List.length_append, List.length_cons, List.length_nil, l01Bit_eq, l08Two_eq, twoB_len]
      rw [specBytes_l3 N c hc ho n (k + 1) _ (by omega) (by omega) (by omega) (by simp [twoB_len]; omega)]
      simp [fileB]
    · simp (disch := omega) only [dec_t, dec_f, cond_false, gd_true, Int.toNat_natCast, bind_id, nc1, wi_of, room_t, List.length_append, List.length_cons, List.length_nil, List.drop_of_length_le, List.flatMap_nil, List.append_nil]
theorem specBytes_eq {N : Nat} (hN : 18446744073709551616 ≤ N) (c : List FileT) (hc : c.length ≤ 12) (ho : ∀ f ∈ c, okOne f = true) : g_ch N c = some (bytesF c) := by
  unfold g_ch
  have key := specBytes_l3 N c hc ho N 0 [wb (c.length : Int)] (by omega) (by omega) (by omega) (by simp)
  rw [Int.natCast_zero, List.drop_zero] at key
  rw [key]; rfl
theorem implBytes_l3 {N : Nat} (hN : 18446744073709551616 ≤ N) (c : List FileT) (hc : c.length ≤ 12) (ho : ∀ f ∈ c, okOne f = true) : ∀ (n k : Nat) (acc : List UInt8), c.length ≤ k + n - 1 → 0 < n → k ≤ c.length → acc.length ≤ 1 + 1000 * k →
    g_al.l3 N n c (c.length : Int) acc (k : Int) = some (acc ++ (c.drop k).flatMap fileB)
  | 0, _, _, _, h, _, _ => by omega
  | n + 1, k, acc, hn, _, hk, ha => by
    unfold g_al.l3
    by_cases h : k < c.length
    · obtain ⟨l1, l2⟩ := okOne_len (ho _ (List.getElem_mem h))
      rw [drop_get h, List.flatMap_cons]
      have htl : (twoB (c[k].2.2.length : Int)).length = 2 := rfl
      simp (disch := omega) only [dec_t, cond_true, gd_true, Int.toNat_natCast, get_t, Option.bind_some, bind_id, nc1, wi_of, List.length_append, List.length_cons, List.length_nil, flag_eq, xO1 hN, xO2 hN]
      rw [implBytes_l3 hN c hc ho n (k + 1) _ (by omega) (by omega) (by omega) (by simp [twoB_len]; omega)]
      simp [fileB]
    · simp (disch := omega) only [dec_t, dec_f, cond_false, gd_true, Int.toNat_natCast, bind_id, nc1, wi_of, List.length_append, List.drop_of_length_le, List.flatMap_nil, List.append_nil]
theorem implBytes_eq {N : Nat} (hN : 18446744073709551616 ≤ N) (c : List FileT) (hc : c.length ≤ 12) (ho : ∀ f ∈ c, okOne f = true) : g_al N c = some (bytesF c) := by
  unfold g_al
  have key := implBytes_l3 hN c hc ho N 0 [wb (c.length : Int)] (by omega) (by omega) (by omega) (by simp)
  rw [Int.natCast_zero, List.drop_zero] at key
  rw [xO1 hN, Option.bind_some, key]; rfl
/-! ### Reading -/
def nB (b : List UInt8) : Nat := numB (b.take 1)
def mB (b : List UInt8) : Nat := numB ((b.drop (nB b + 2)).take 2)
def goodF (b : List UInt8) : Bool := decide (1 ≤ b.length) && (decide (nB b + 4 ≤ b.length) && decide (nB b + 4 + mB b ≤ b.length))
def fileOf (b : List UInt8) : FileT := ((b.drop 1).take (nB b), ((numB ((b.drop (nB b + 1)).take 1) : Nat) : Int) == 1, (b.drop (nB b + 4)).take (mB b))
def restF (b : List UInt8) : List UInt8 := b.drop (nB b + 4 + mB b)
def filesOf : Nat → List UInt8 → Option (List FileT × List UInt8)
  | 0, b => some ([], b)
  | n + 1, b => bif goodF b then (filesOf n (restF b)).map (fun x => (fileOf b :: x.1, x.2)) else none
def sF5 (p : List UInt8) (d : Bool) (x : (List UInt8 × Bool) × List UInt8) : (List UInt8 × Bool) × FileT := (x.1, (p, d, x.2))
def sF4 (p : List UInt8) (d : Bool) (x : (List UInt8 × Bool) × List UInt8) : (List UInt8 × Bool) × FileT := sF5 p d (tkR x.1 (numB x.2))
def sF3 (p : List UInt8) (x : (List UInt8 × Bool) × List UInt8) : (List UInt8 × Bool) × FileT := sF4 p (((numB x.2 : Nat) : Int) == 1) (tkR x.1 2)
def sF2 (x : (List UInt8 × Bool) × List UInt8) : (List UInt8 × Bool) × FileT := sF3 x.2 (tkR x.1 1)
def sF1 (x : (List UInt8 × Bool) × List UInt8) : (List UInt8 × Bool) × FileT := sF2 (tkR x.1 (numB x.2))
def stF (r : List UInt8 × Bool) : (List UInt8 × Bool) × FileT := sF1 (tkR r 1)
theorem sF4_f (p d x) (h : x.1.2 = true) : (sF4 p d x).1.2 = true := tkR_fail _ _ h
theorem sF3_f (p x) (h : x.1.2 = true) : (sF3 p x).1.2 = true := sF4_f _ _ _ (tkR_fail _ _ h)
theorem sF2_f (x) (h : x.1.2 = true) : (sF2 x).1.2 = true := sF3_f _ _ (tkR_fail _ _ h)
theorem sF1_f (x) (h : x.1.2 = true) : (sF1 x).1.2 = true := sF2_f _ (tkR_fail _ _ h)
theorem goodF_parts {b : List UInt8} (h : goodF b = true) : 1 ≤ b.length ∧ nB b + 4 ≤ b.length ∧ nB b + 4 + mB b ≤ b.length := by
  unfold goodF at h
  simpa only [Bool.and_eq_true, decide_eq_true_eq] using h
theorem stF_ok (b : List UInt8) (f : Bool) (h : goodF b = true) : stF (b, f) = ((restF b, f), fileOf b) := by
  obtain ⟨h1, h2, h3⟩ := goodF_parts h
  have t1 : tkR (b, f) 1 = ((b.drop 1, f), b.take 1) := tkR_ok b f 1 h1
  have t2 : tkR (b.drop 1, f) (nB b) = ((b.drop (nB b + 1), f), (b.drop 1).take (nB b)) := by
    rw [tkR_ok _ f _ (by simp; omega), List.drop_drop, Nat.add_comm 1]
  have t3 : tkR (b.drop (nB b + 1), f) 1 = ((b.drop (nB b + 2), f), (b.drop (nB b + 1)).take 1) := by
    rw [tkR_ok _ f _ (by simp; omega), List.drop_drop]
  have t4 : tkR (b.drop (nB b + 2), f) 2 = ((b.drop (nB b + 4), f), (b.drop (nB b + 2)).take 2) := by
    rw [tkR_ok _ f _ (by simp; omega), List.drop_drop]
  have t5 : tkR (b.drop (nB b + 4), f) (mB b) = ((b.drop (nB b + 4 + mB b), f), (b.drop (nB b + 4)).take (mB b)) := by
    rw [tkR_ok _ f _ (by simp; omega), List.drop_drop]
  have u1 : numB (b.take 1) = nB b := rfl
  have u2 : numB ((b.drop (nB b + 2)).take 2) = mB b := rfl
  unfold stF restF fileOf
  rw [t1, sF1, u1, t2, sF2, t3, sF3, t4, sF4, u2, t5, sF5]
theorem stF_fail (r : List UInt8 × Bool) (h : r.2 = true ∨ goodF r.1 = false) : (stF r).1.2 = true := by
  obtain ⟨b, f⟩ := r
  unfold stF
  rcases h with h | h
  · exact sF1_f _ (tkR_fail _ _ h)
  · dsimp only at h
    by_cases h1 : b.length < 1
    · exact sF1_f _ (by rw [tkR_short b f 1 h1])
    · have t1 : tkR (b, f) 1 = ((b.drop 1, f), b.take 1) := tkR_ok b f 1 (by omega)
      have u1 : numB (b.take 1) = nB b := rfl
      rw [t1, sF1, u1]
      by_cases h2 : (b.drop 1).length < nB b
      · exact sF2_f _ (by rw [tkR_short _ f _ h2])
      · rw [List.length_drop] at h2
        have t2 : tkR (b.drop 1, f) (nB b) = ((b.drop (nB b + 1), f), (b.drop 1).take (nB b)) := by
          rw [tkR_ok _ f _ (by simp; omega), List.drop_drop, Nat.add_comm 1]
        rw [t2, sF2]
        by_cases h3 : (b.drop (nB b + 1)).length < 1
        · exact sF3_f _ _ (by rw [tkR_short _ f _ h3])
        · rw [List.length_drop] at h3
          have t3 : tkR (b.drop (nB b + 1), f) 1 = ((b.drop (nB b + 2), f), (b.drop (nB b + 1)).take 1) := by
            rw [tkR_ok _ f _ (by simp; omega), List.drop_drop]
          rw [t3, sF3]
          by_cases h4 : (b.drop (nB b + 2)).length < 2
          · exact sF4_f _ _ _ (by rw [tkR_short _ f _ h4])
          · rw [List.length_drop] at h4
            have t4 : tkR (b.drop (nB b + 2), f) 2 = ((b.drop (nB b + 4), f), (b.drop (nB b + 2)).take 2) := by
              rw [tkR_ok _ f _ (by simp; omega), List.drop_drop]
            have u2 : numB ((b.drop (nB b + 2)).take 2) = mB b := rfl
            rw [t4, sF4, u2, tkR_short _ f _ ?_]
            · rfl
            rw [List.length_drop]
            unfold goodF at h
            rw [dec_t (show 1 ≤ b.length by omega), dec_t (show nB b + 4 ≤ b.length by omega), Bool.true_and, Bool.true_and, decide_eq_false_iff_not] at h
            omega
theorem readStep {N : Nat} (hN : 18446744073709551616 ≤ N) {α : Type} (r : List UInt8 × Bool) (K : List UInt8 → Bool → FileT → Option α) :
    ((g_av N r 1).bind fun r6 => (g_aw N r6.1 r6.2).bind fun r7 => (g_av N r7.1 1).bind fun r8 => (g_av N r8.1 2).bind fun r9 => (g_aw N r9.1 r9.2).bind fun r10 => K r10.1.1 r10.1.2 (r7.2, r8.2 == 1, r10.2)) = K (stF r).1.1 (stF r).1.2 (stF r).2 := by
  have e1 : ∀ r, g_av N r 1 = some ((tkR r 1).1, ((numB (tkR r 1).2 : Nat) : Int)) := fun r => number_eq hN r 1 (by omega)
  have e2 : ∀ r, g_av N r 2 = some ((tkR r 2).1, ((numB (tkR r 2).2 : Nat) : Int)) := fun r => number_eq hN r 2 (by omega)
  unfold stF
  rw [e1, Option.bind_some]
  generalize tkR r 1 = x
  unfold sF1
  rw [take_eq, Option.bind_some]
  generalize tkR x.1 (numB x.2) = x
  unfold sF2
  rw [e1, Option.bind_some]
  generalize tkR x.1 1 = y
  unfold sF3
  rw [e2, Option.bind_some]
  generalize tkR y.1 2 = z
  unfold sF4
  rw [take_eq, Option.bind_some]
  rfl
theorem implRead_l4 {N : Nat} (hN : 18446744073709551616 ≤ N) (t : List UInt8) : ∀ (n c k : Nat) (b : List UInt8) (f : Bool) (acc : List FileT), c ≤ k + n - 1 → 0 < n → k ≤ c → c ≤ 255 → acc.length = k →
    (∀ L r, filesOf (c - k) b = some (L, r) → g_au.l4 N n t (c : Int) (k : Int) b f acc = some (r, f, acc ++ L)) ∧
    ((f = true ∨ filesOf (c - k) b = none) → ∃ b' acc', g_au.l4 N n t (c : Int) (k : Int) b f acc = some (b', true, acc'))
  | 0, _, _, _, _, _, _, h, _, _, _ => by omega
  | n + 1, c, k, b, f, acc, hn, _, hk, hc, hl => by
    unfold g_au.l4
    by_cases h : k < c
    · have ih := implRead_l4 hN t n c (k + 1) (stF (b, f)).1.1 (stF (b, f)).1.2 (acc ++ [(stF (b, f)).2]) (by omega) (by omega) (by omega) hc (by simp [hl])
      have hs := readStep hN (b, f) (fun b' f' x => gd (roomOK (acc.length + [x].length) 40) <| (g_au.l4 N n t (c : Int) (wi ((k : Int) + 1)) b' f' (acc ++ [x])).bind some)
      rw [dec_t (show (k : Int) < (c : Int) by omega), cond_true, hs]
      rw [room_t (by simp; omega), gd_true, bind_id, wi_succ (by omega)]
      rw [show c - k = (c - (k + 1)) + 1 by omega, filesOf]
      refine ⟨fun L r hb => ?_, fun hb => ?_⟩
      · cases hg : goodF b with
        | false => rw [hg] at hb; cases hb
        | true =>
          rw [hg, cond_true] at hb
          cases hf : filesOf (c - (k + 1)) (restF b) with
          | none => rw [hf] at hb; cases hb
          | some x =>
            obtain ⟨L', r'⟩ := x
            rw [hf, Option.map_some] at hb
            obtain ⟨rfl, rfl⟩ := Prod.mk.inj (Option.some.inj hb)
            rw [stF_ok b f hg] at ih
            rw [stF_ok b f hg, ih.1 L' r' hf]
            simp
      · refine ih.2 ?_
        by_cases hx : f = true ∨ goodF b = false
        · exact .inl (stF_fail _ hx)
        · rw [not_or, Bool.not_eq_false] at hx
          rw [stF_ok b f hx.2]
          rcases hb with hb | hb
          · exact absurd hb hx.1
          · rw [hx.2, cond_true, Option.map_eq_none_iff] at hb
            exact .inr hb
    · have : k = c := by omega
      subst this
      simp (disch := omega) only [dec_f, cond_false, gd_true, bind_id, nc1, wi_of, room_t, List.length_cons, List.length_nil]
      rw [Nat.sub_self, filesOf]
      refine ⟨fun L r hb => ?_, fun hb => ?_⟩
      · obtain ⟨rfl, rfl⟩ := Prod.mk.inj (Option.some.inj hb); simp
      · rcases hb with hb | hb
        · exact ⟨b, acc, by rw [hb]⟩
        · cases hb
set_option maxHeartbeats 2000000 in
theorem specRead_l6 {N : Nat} (hN : 18446744073709551616 ≤ N) (t : List UInt8) (ht : t.length ≤ 65536) : ∀ (n k i : Nat) (acc : List FileT), i < n → k ≤ t.length → acc.length + i ≤ 255 →
    (∀ L r, filesOf i (t.drop k) = some (L, r) → g_cs.l6 N n t (k : Int) (i : Int) acc = some (.inr (acc ++ L))) ∧
    (filesOf i (t.drop k) = none → ∃ acc', g_cs.l6 N n t (k : Int) (i : Int) acc = some (.inl (false, acc')))
  | 0, _, _, _, h, _, _ => by omega
  | n + 1, k, 0, acc, hn, hk, ha => by
    unfold g_cs.l6
    simp (disch := omega) only [dec_t, dec_f, cond_false, gd_true, Int.toNat_natCast, bind_id, nc1, wi_u8, wi_of, room_t, List.length_cons, List.length_nil, filesOf]
    refine ⟨fun L r hb => ?_, fun hb => by cases hb⟩
    obtain ⟨rfl, rfl⟩ := Prod.mk.inj (Option.some.inj hb)
    simp
  | n + 1, k, i + 1, acc, hn, hk, ha => by
    unfold g_cs.l6
    rw [dec_t (show ((i + 1 : Nat) : Int) > 0 by omega), cond_true, filesOf]
    by_cases h : k < t.length
    · have hq := t[k].toNat_lt
      have n1 : nB (t.drop k) = t[k].toNat := by have := numB_take1 t k h; unfold nB; omega
      have l0 : (t.drop k).length = t.length - k := List.length_drop
      rw [dec_f (show ¬ ((k : Int) ≥ (t.length : Int)) by omega), cond_false, dec_t (show (0 : Int) ≤ (k : Int) by omega), gd_true, Int.toNat_natCast, get_t h, Option.bind_some]
      simp only [Option.bind_some, gd_true]
      generalize hz : t[k].toNat = q at hq n1
      have w1 : wi ((k : Int) + 1) = ((k + 1 : Nat) : Int) := by rw [wi_of (by omega) (by omega)]; rfl
      have w2 : wi ((q : Nat) : Int) = (q : Int) := wi_of (by omega) (by omega)
      have w3 : wi (((k + 1 : Nat) : Int) + (q : Int)) = ((k + 1 + q : Nat) : Int) := by rw [wi_of (by omega) (by omega)]; omega
      have w4 : wi (((k + 1 + q : Nat) : Int) + 3) = ((k + 1 + q + 3 : Nat) : Int) := by rw [wi_of (by omega) (by omega)]; omega
      have w5 : wi ((q : Int) + 2) = ((q + 2 : Nat) : Int) := by rw [wi_of (by omega) (by omega)]; omega
      have w6 : wi ((k : Int) + ((q + 2 : Nat) : Int)) = ((k + (q + 2) : Nat) : Int) := by rw [wi_of (by omega) (by omega)]; omega
      have w7 : wi (((k + (q + 2) : Nat) : Int) + 2) = ((k + (q + 2) + 2 : Nat) : Int) := by rw [wi_of (by omega) (by omega)]; omega
      simp only [w1, w2, w3, w4, w5, w6, w7]
      by_cases h2 : k + 1 + q + 3 ≤ t.length
      · rw [dec_f (show ¬ (((k + 1 + q + 3 : Nat) : Int) > (t.length : Int)) by omega), cond_false]
        have h3 : k + 1 + q < t.length := by omega
        have s1 : (t.take (k + 1 + q)).drop (k + 1) = ((t.drop k).drop 1).take q := by rw [drop_take', List.drop_drop]
        have s2 : (t.take (k + (q + 2) + 2)).drop (k + (q + 2)) = ((t.drop k).drop (q + 2)).take 2 := by rw [drop_take', List.drop_drop]
        have s3 : g_cf N (((t.drop k).drop (q + 2)).take 2) = some ((mB (t.drop k) : Nat) : Int) := by
          rw [l06Number_eq hN _ (by simp; omega)]; unfold mB; rw [n1]
        have m1 : mB (t.drop k) < 65536 := by
          have := numB_lt (((t.drop k).drop (nB (t.drop k) + 2)).take 2)
          have e : (((t.drop k).drop (nB (t.drop k) + 2)).take 2).length = 2 := by simp; omega
          rw [e] at this
          exact this
        have d1 : ((t[k + 1 + q].toNat : Int) == 1) = (((numB (((t.drop k).drop (q + 1)).take 1) : Nat) : Int) == 1) := by
          rw [List.drop_drop, show k + (q + 1) = k + 1 + q by omega, numB_take1 t (k + 1 + q) h3]
        generalize hm : mB (t.drop k) = m at s3 m1
        have w8 : wi (((k + (q + 2) + 2 : Nat) : Int) + (m : Int)) = ((k + (q + 2) + 2 + m : Nat) : Int) := by rw [wi_of (by omega) (by omega)]; omega
        have w10 : ((k + (q + 2) + 2 : Nat) : Int) + (m : Int) = ((k + (q + 2) + 2 + m : Nat) : Int) := by omega
        simp (disch := omega) only [dec_t, gd_true, Bool.true_and, Bool.and_self, Int.toNat_natCast, Option.bind_some, bind_id, wi_of, room_t, List.length_cons, List.length_nil, List.getElem?_eq_getElem h3, s1, s2, s3, w10]
        by_cases h4 : k + (q + 2) + 2 + m ≤ t.length
        · have hg : goodF (t.drop k) = true := by
            unfold goodF
            rw [n1, hm, l0, dec_t (show 1 ≤ t.length - k by omega), dec_t (show q + 4 ≤ t.length - k by omega), dec_t (show q + 4 + m ≤ t.length - k by omega)]; rfl
          have s4 : (t.take (k + (q + 2) + 2 + m)).drop (k + (q + 2) + 2) = ((t.drop k).drop (q + 4)).take m := by
            rw [drop_take', List.drop_drop]; congr 2
          have w9 : wi (((i + 1 : Nat) : Int) - 1) = (i : Int) := by rw [wi_of (by omega) (by omega)]; omega
          have f1 : ((((t.drop k).drop 1).take q, (t[k + 1 + q].toNat : Int) == 1, ((t.drop k).drop (q + 4)).take m) : FileT) = fileOf (t.drop k) := by
            unfold fileOf; rw [n1, hm, d1]
          have f2 : t.drop (k + (q + 2) + 2 + m) = restF (t.drop k) := by
            unfold restF; rw [n1, hm, List.drop_drop]; congr 1; omega
          simp (disch := omega) only [dec_t, dec_f, cond_false, gd_true, s4, ncp, f1]
          have ih := specRead_l6 hN t ht n (k + (q + 2) + 2 + m) i (acc ++ [fileOf (t.drop k)]) (by omega) h4 (by simp; omega)
          rw [f2] at ih
          rw [hg, cond_true]
          refine ⟨fun L r hb => ?_, fun hb => ?_⟩
          · cases hf : filesOf i (restF (t.drop k)) with
            | none => rw [hf] at hb; cases hb
            | some x =>
              obtain ⟨L', r'⟩ := x
              rw [hf, Option.map_some] at hb
              obtain ⟨rfl, rfl⟩ := Prod.mk.inj (Option.some.inj hb)
              rw [ih.1 L' r' hf]; simp
          · rw [Option.map_eq_none_iff] at hb
            exact ih.2 hb
        · have hg : goodF (t.drop k) = false := by
            unfold goodF
            rw [n1, hm, l0, dec_f (show ¬ (q + 4 + m ≤ t.length - k) by omega), Bool.and_false, Bool.and_false]
          simp (disch := omega) only [dec_t, dec_f, cond_true, cond_false, hg]
          exact ⟨fun L r hb => (by cases hb), fun _ => ⟨_, rfl⟩⟩
      · have hg : goodF (t.drop k) = false := by
          unfold goodF
          rw [n1, l0, dec_f (show ¬ (q + 4 ≤ t.length - k) by omega), Bool.false_and, Bool.and_false]
        rw [dec_t (show ((k + 1 + q + 3 : Nat) : Int) > (t.length : Int) by omega), cond_true, hg, cond_false]
        exact ⟨fun L r hb => (by cases hb), fun _ => ⟨_, rfl⟩⟩
    · have hg : goodF (t.drop k) = false := by
        unfold goodF
        rw [List.length_drop, dec_f (by omega)]; rfl
      rw [dec_t (show ((k : Int) ≥ (t.length : Int)) by omega), cond_true, hg, cond_false]
      exact ⟨fun L r hb => (by cases hb), fun _ => ⟨_, rfl⟩⟩
end Go.Vm
/- The law: files read of bytes, by the program and by the reference. -/
set_option linter.unusedVariables false
set_option maxRecDepth 100000
namespace Go.Vm
theorem filesOf_bd : ∀ (n : Nat) (b : List UInt8) (L : List FileT) (r : List UInt8), filesOf n b = some (L, r) → L.length = n ∧ ∀ f ∈ L, f.1.length ≤ b.length ∧ f.2.2.length ≤ b.length
  | 0, b, L, r, h => by
    obtain ⟨rfl, rfl⟩ := Prod.mk.inj (Option.some.inj h); simp
  | n + 1, b, L, r, h => by
    unfold filesOf at h
    cases hg : goodF b with
    | false => rw [hg] at h; cases h
    | true =>
      rw [hg, cond_true] at h
      cases hf : filesOf n (restF b) with
      | none => rw [hf] at h; cases h
      | some x =>
        obtain ⟨L', r'⟩ := x
        rw [hf, Option.map_some] at h
        obtain ⟨rfl, rfl⟩ := Prod.mk.inj (Option.some.inj h)
        obtain ⟨i1, i2⟩ := filesOf_bd n _ L' r' hf
        have hl : (restF b).length ≤ b.length := by unfold restF; simp
        refine ⟨by simp [i1], fun f hf => ?_⟩
        rcases List.mem_cons.1 hf with rfl | hf
        · unfold fileOf; simp only [List.length_take, List.length_drop]; omega
        · have := i2 f hf; omega
def rdFiles (t : List UInt8) : List FileT × Int :=
  if 65536 < t.length then ([], 2) else
  match t with
  | [] => ([], 3)
  | a :: t1 =>
    match filesOf a.toNat t1 with
    | none => ([], 3)
    | some x => bif okFiles x.1 then (bif bytesF x.1 == t then (x.1, 0) else ([], 3)) else ([], 3)
theorem filesOf_ok {a : UInt8} {t1 : List UInt8} {L : List FileT} {r : List UInt8} (h : filesOf a.toNat t1 = some (L, r)) (ht : t1.length ≤ 65536) : bdFileS 1000000000 L := by
  obtain ⟨h1, h2⟩ := filesOf_bd _ _ _ _ h
  have := a.toNat_lt
  exact ⟨by omega, fun f hf => ⟨by have := h2 f hf; omega, by have := h2 f hf; omega⟩⟩
theorem specReadFiles_eq {N : Nat} (hN : 18446744073709551616 ≤ N) (t : List UInt8) : g_bq N t = some (rdFiles t) := by
  unfold g_bq rdFiles
  by_cases h : 65536 < t.length
  · rw [dec_t (show (t.length : Int) > 65536 by omega), cond_true, if_pos h]
  · rw [dec_f (show ¬ (t.length : Int) > 65536 by omega), cond_false, if_neg h]
    unfold g_cs
    cases t with
    | nil => rfl
    | cons a t1 =>
      have e0 : ((a :: t1) == ([] : List UInt8)) = false := rfl
      have hq := a.toNat_lt
      rw [List.length_cons] at h
      have key := specRead_l6 hN (a :: t1) (by rw [List.length_cons]; omega) N 1 a.toNat [] (by omega) (by simp) (by simp; omega)
      rw [List.drop_succ_cons, List.drop_zero] at key
      simp only [e0, cond_false, List.getElem?_cons_zero, Option.bind_some, wi_u8]
      rw [show (1 : Int) = ((1 : Nat) : Int) from rfl]
      cases hf : filesOf a.toNat t1 with
      | none =>
        obtain ⟨acc', e⟩ := key.2 hf
        rw [e]; rfl
      | some x =>
        obtain ⟨L, r⟩ := x
        have hb := filesOf_ok hf (by omega)
        rw [key.1 L r hf, List.nil_append]
        simp only [Option.bind_some, alt_inr]
        rw [specFiles_eq hN L hb, Option.bind_some]
        cases ho : okFiles L with
        | false => rfl
        | true =>
          obtain ⟨h1, _, h2, _⟩ := okFiles_parts ho
          rw [cond_true, specBytes_eq hN L h1 h2, Option.bind_some, cond_true]
          cases bytesF L == a :: t1 <;> rfl
theorem implReadFiles_eq {N : Nat} (hN : 18446744073709551616 ≤ N) (t : List UInt8) : g_af N t = some (rdFiles t) := by
  unfold g_af rdFiles
  rw [isLong1_eq hN, Option.bind_some]
  by_cases h : 65536 < t.length
  · rw [dec_t h, cond_true, if_pos h]
  · rw [dec_f h, cond_false, if_neg h]
    unfold g_au
    have e1 : g_av N (t, false) 1 = some ((tkR (t, false) 1).1, ((numB (tkR (t, false) 1).2 : Nat) : Int)) := number_eq hN (t, false) 1 (by omega)
    rw [e1]
    cases t with
    | nil =>
      rw [tkR_short [] false 1 (by simp)]
      have key := (implRead_l4 hN [] N 0 0 [] true [] (by omega) (by omega) (by omega) (by omega) rfl).1 [] [] rfl
      simp only [Option.bind_some]
      rw [show numB [] = 0 from rfl]
      rw [show (0 : Int) = ((0 : Nat) : Int) from rfl, key]; rfl
    | cons a t1 =>
      have hq := a.toNat_lt
      rw [List.length_cons] at h
      rw [tkR_ok (a :: t1) false 1 (by simp)]
      have e2 : numB ((a :: t1).take 1) = a.toNat := by simp [numB]
      simp only [Option.bind_some, e2, List.drop_succ_cons, List.drop_zero]
      have key := implRead_l4 hN (a :: t1) N a.toNat 0 t1 false [] (by omega) (by omega) (by omega) (by omega) rfl
      rw [Nat.sub_zero, Int.natCast_zero] at key
      cases hf : filesOf a.toNat t1 with
      | none =>
        obtain ⟨b', acc', e⟩ := key.2 (.inr hf)
        rw [e]; rfl
      | some x =>
        obtain ⟨L, r⟩ := x
        have hb := filesOf_ok hf (by omega)
        rw [key.1 L r hf, List.nil_append]
        simp only [Option.bind_some, Bool.not_false, cond_true]
        rw [implFiles_eq hN L hb, Option.bind_some]
        cases ho : okFiles L with
        | false => rfl
        | true =>
          obtain ⟨h1, _, h2, _⟩ := okFiles_parts ho
          rw [cond_true, implBytes_eq hN L h1 h2, Option.bind_some, cond_true]
          cases bytesF L == a :: t1 <;> rfl
end Go.Vm
/- The law: files are read back from their bytes, and bytes that are read are those of what was read. -/
set_option linter.unusedVariables false
set_option maxRecDepth 100000
namespace Go.Vm
theorem numB_wb (n : Nat) (h : n < 256) : numB [wb (n : Int)] = n := by
  have := toNat_wb (n : Int)
  simp only [numB, List.foldl_cons, List.foldl_nil]
  omega
theorem numB_two (n : Nat) (h : n < 65536) : numB (twoB (n : Int)) = n := by
  unfold twoB
  rw [Int.tdiv_eq_ediv_of_nonneg (by omega)]
  have h1 := toNat_wb ((n : Int) / 256)
  have h2 := toNat_wb (n : Int)
  simp only [numB, List.foldl_cons, List.foldl_nil]
  omega
theorem drop_app {α : Type} (a b : List α) (n : Nat) (h : a.length = n) : (a ++ b).drop n = b := by subst h; simp
theorem take_app {α : Type} (a b : List α) (n : Nat) (h : a.length = n) : (a ++ b).take n = a := by subst h; simp
theorem fileOf_fileB {f : FileT} (ho : okOne f = true) (r : List UInt8) : goodF (fileB f ++ r) = true ∧ fileOf (fileB f ++ r) = f ∧ restF (fileB f ++ r) = r := by
  obtain ⟨l1, l2⟩ := okOne_len ho
  obtain ⟨p, d, t⟩ := f
  dsimp only at l1 l2
  have e0 : fileB (p, d, t) ++ r = [wb (p.length : Int)] ++ (p ++ ([wb (bitF d)] ++ (twoB (t.length : Int) ++ (t ++ r)))) := by simp [fileB]
  have n1 : nB (fileB (p, d, t) ++ r) = p.length := by
    unfold nB; rw [e0, take_app _ _ 1 rfl, numB_wb _ (by omega)]
  have g1 : (fileB (p, d, t) ++ r).drop 1 = p ++ ([wb (bitF d)] ++ (twoB (t.length : Int) ++ (t ++ r))) := by rw [e0, drop_app _ _ 1 rfl]
  have g2 : (fileB (p, d, t) ++ r).drop (p.length + 1) = [wb (bitF d)] ++ (twoB (t.length : Int) ++ (t ++ r)) := by
    rw [Nat.add_comm, ← List.drop_drop, g1, drop_app _ _ _ rfl]
  have g3 : (fileB (p, d, t) ++ r).drop (p.length + 2) = twoB (t.length : Int) ++ (t ++ r) := by
    rw [show p.length + 2 = (p.length + 1) + 1 by omega, ← List.drop_drop, g2, drop_app _ _ 1 rfl]
  have g4 : (fileB (p, d, t) ++ r).drop (p.length + 4) = t ++ r := by
    rw [show p.length + 4 = (p.length + 2) + 2 by omega, ← List.drop_drop, g3, drop_app _ _ 2 rfl]
  have m1 : mB (fileB (p, d, t) ++ r) = t.length := by
    unfold mB; rw [n1, g3, take_app _ _ 2 rfl, numB_two _ (by omega)]
  have l3 : (fileB (p, d, t) ++ r).length = p.length + 4 + t.length + r.length := by
    rw [e0]; simp only [List.length_append, List.length_cons, List.length_nil, twoB_len]; omega
  refine ⟨?_, ?_, ?_⟩
  · unfold goodF
    rw [n1, m1, l3, dec_t (show 1 ≤ p.length + 4 + t.length + r.length by omega), dec_t (show p.length + 4 ≤ p.length + 4 + t.length + r.length by omega), dec_t (show p.length + 4 + t.length ≤ p.length + 4 + t.length + r.length by omega)]; rfl
  · unfold fileOf
    rw [n1, m1, g1, g2, g4, take_app _ _ _ rfl, take_app _ _ 1 rfl, take_app _ _ _ rfl]
    cases d <;> rfl
  · unfold restF
    rw [n1, m1, ← List.drop_drop, g4, drop_app _ _ _ rfl]
theorem filesOf_bytes : ∀ (L : List FileT) (r : List UInt8), (∀ f ∈ L, okOne f = true) → filesOf L.length (L.flatMap fileB ++ r) = some (L, r)
  | [], r, _ => rfl
  | f :: L, r, h => by
    obtain ⟨h1, h2, h3⟩ := fileOf_fileB (h f (List.mem_cons_self ..)) (L.flatMap fileB ++ r)
    rw [List.length_cons, filesOf, List.flatMap_cons, List.append_assoc, h1, cond_true, h2, h3, filesOf_bytes L r fun x hx => h x (List.mem_cons_of_mem _ hx)]
    rfl
theorem fileB_len {f : FileT} (h : okOne f = true) : (fileB f).length ≤ 300 := by
  obtain ⟨l1, l2⟩ := okOne_len h
  simp only [fileB, List.length_append, List.length_cons, twoB_len]; omega
theorem bytes_len : ∀ (c : List FileT), (∀ f ∈ c, okOne f = true) → (c.flatMap fileB).length ≤ 300 * c.length
  | [], _ => by simp
  | f :: c, h => by
    have ih := bytes_len c fun x hx => h x (List.mem_cons_of_mem _ hx)
    have := fileB_len (h f (List.mem_cons_self ..))
    rw [List.flatMap_cons, List.length_append, List.length_cons]; omega
theorem rdFiles_bytes {L : List FileT} (h : OKF L) : rdFiles (bytesF L) = (L, 0) := by
  have hl := h.len
  have h1 := bytes_len L h.one
  unfold rdFiles
  have e1 : bytesF L = wb (L.length : Int) :: L.flatMap fileB := rfl
  rw [if_neg (by rw [e1, List.length_cons]; omega), e1]
  have e2 : (wb (L.length : Int)).toNat = L.length := by have := toNat_wb (L.length : Int); omega
  have e3 := filesOf_bytes L [] h.one
  rw [List.append_nil] at e3
  simp only [e2, e3]
  rw [(okf_iff L).2 h, cond_true, ← e1, beq_self_eq_true]; rfl
def bytesFF (c : List FileT) : List UInt8 × Int := bif decide (c.length > 4096) then ([], 2) else bif okFiles c then (bytesF c, 0) else ([], 1)
theorem implFilesBytes_eq {N : Nat} (hN : 18446744073709551616 ≤ N) (c : List FileT) (hb : bdFileS 1000000000 c) : g_aa N c = some (bytesFF c) := by
  have hl : c.length ≤ 1000000000 := hb.1
  unfold g_aa bytesFF g_ap
  rw [Option.bind_some]
  by_cases h : c.length > 4096
  · rw [dec_t (show (c.length : Int) > 4096 by omega), dec_t h]; rfl
  · rw [dec_f (show ¬ (c.length : Int) > 4096 by omega), dec_f h, cond_false, cond_false, implFiles_eq hN c hb, Option.bind_some]
    cases ho : okFiles c with
    | false => rfl
    | true =>
      obtain ⟨h1, _, h2, _⟩ := okFiles_parts ho
      rw [implBytes_eq hN c h1 h2]; rfl
theorem specFilesBytes_eq {N : Nat} (hN : 18446744073709551616 ≤ N) (c : List FileT) (hb : bdFileS 1000000000 c) : g_bm N c = some (bytesFF c) := by
  have hl : c.length ≤ 1000000000 := hb.1
  unfold g_bm bytesFF
  by_cases h : c.length > 4096
  · rw [dec_t (show (c.length : Int) > 4096 by omega), dec_t h]; rfl
  · rw [dec_f (show ¬ (c.length : Int) > 4096 by omega), dec_f h, cond_false, cond_false, specFiles_eq hN c hb, Option.bind_some]
    cases ho : okFiles c with
    | false => rfl
    | true =>
      obtain ⟨h1, _, h2, _⟩ := okFiles_parts ho
      rw [specBytes_eq hN c h1 h2]; rfl
theorem okf_bytes {c : List FileT} (h : OKF c) : bytesFF c = (bytesF c, 0) := by
  unfold bytesFF
  have := h.len
  rw [dec_f (show ¬ (c.length > 4096) by omega), (okf_iff c).2 h]; rfl
theorem rdFiles_ok {t : List UInt8} (h : (rdFiles t).2 = 0) : OKF (rdFiles t).1 ∧ bytesF (rdFiles t).1 = t := by
  unfold rdFiles at h ⊢
  split at h
  · cases h
  · split at h
    · cases h
    · split at h
      · cases h
      · rename_i a t1 hn _ x hx
        cases ho : okFiles x.1 with
        | false => rw [ho] at h; cases h
        | true =>
          rw [ho, cond_true] at h
          cases hb : bytesF x.1 == a :: t1 with
          | false => rw [hb] at h; cases h
          | true =>
            rw [if_neg hn, cond_true, cond_true]
            exact ⟨(okf_iff _).1 ho, by simpa using hb⟩
theorem sameFiles_l (N n : Nat) (c d : List FileT) (k : Int) : g_be.l4 N n c d k = eqL (fun x y => some ((x.1 == y.1) && ((x.2.1 == y.2.1) && (x.2.2 == y.2.2)))) n c d k := by
  induction n generalizing k with
  | zero => rfl
  | succ n ih => simp only [g_be.l4, eqL, ih, Option.bind_some]
theorem sameFiles_eq {N : Nat} (hN : 18446744073709551616 ≤ N) (x y : List FileT) (h : bdFileS 1000000000 x) : g_be N x y = some (decide (x = y)) := by
  have hl : x.length ≤ 1000000000 := h.1
  unfold g_be
  simp only [sameFiles_l]
  exact eqS_eq x y (fun z _ y => by
    obtain ⟨z0, z1, z2⟩ := z
    obtain ⟨y0, y1, y2⟩ := y
    simp only [beq_dec, Prod.mk.injEq, Option.some.injEq]
    by_cases h0 : z0 = y0 <;> by_cases h1 : z1 = y1 <;> by_cases h2 : z2 = y2 <;> simp [h0, h1, h2]) (by omega) (by omega)
theorem FnFileBytes_true {N : Nat} (hN : 18446744073709551616 ≤ N) (code : List UInt8) : g_bd N code = some true := by
  unfold g_bd
  by_cases q0 : code.length ≤ 1048576
  · rw [dec_f (show ¬ ((code.length : Int) > 1048576) by omega), cond_false]
    obtain ⟨L, e1, hL⟩ := filesOf_draw hN code q0
    rw [e1, Option.bind_some, implFilesBytes_eq hN L hL.bd, Option.bind_some, specFilesBytes_eq hN L hL.bd, Option.bind_some, okf_bytes hL, implReadFiles_eq hN, rdFiles_bytes hL, Option.bind_some]
    dsimp only
    rw [bne_fi rfl, cond_false, beq_self_eq_true, Bool.not_true, cond_false, cond_false, sameFiles_eq hN L L hL.bd, Option.bind_some, dec_t rfl, Bool.not_true, cond_false, implReadFiles_eq hN, specReadFiles_eq hN, Option.bind_some, Option.bind_some, bne_fi rfl, cond_false]
    by_cases h : (rdFiles code).2 = 0
    · obtain ⟨h1, h2⟩ := rdFiles_ok h
      rw [bne_fi h, cond_false, implFilesBytes_eq hN _ h1.bd, Option.bind_some, okf_bytes h1, beq_ti rfl, cond_true, h2, beq_self_eq_true]
    · rw [bne_ti h, cond_true]
  · rw [dec_t (show ((code.length : Int) > 1048576) by omega), cond_true]
theorem law_FnFileBytes (code : List UInt8) {q : Prop} (_ : q) : ∃ N, g_bd N code = some true :=
  ⟨18446744073709551616, FnFileBytes_true (Nat.le_refl _) code⟩
end Go.Vm

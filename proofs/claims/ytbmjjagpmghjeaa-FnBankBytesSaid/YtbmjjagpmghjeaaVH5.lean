/- A part of the proof: an abstract machine, mirrors and their laws, one text behind the other. -/
import Derived.Test.YtbmjjagpmghjeaaVH4
/- Banks: what is right, their bytes, what is read. -/
set_option linter.unusedVariables false
set_option maxRecDepth 100000
namespace Go.Vm
abbrev RegT := Int × Int × List UInt8
abbrev SesT := Int × Int × Int × Int
abbrev BankT := List RegT × List SesT
def inB (x a b : Int) : Bool := decide (a ≤ x) && decide (x ≤ b)
def okReg (r : RegT) : Bool := inB r.1 0 255 && (inB r.2.1 1 1000000 && decide (r.2.2.length = 32))
def okSes (s : SesT) : Bool := inB s.1 0 65535 && (inB s.2.1 1 65535 && (inB s.2.2.1 0 19 && inB s.2.2.2 0 1000000))
def okBank (b : BankT) : Bool := decide (b.1.length ≤ 6) && b.1.all okReg && risA (·.1) b.1 && (decide (b.2.length ≤ 6) && b.2.all okSes && risA (·.1) b.2)
theorem len32 (l : List UInt8) : ((l.length : Int) == 32) = decide (l.length = 32) := by
  by_cases h : l.length = 32
  · simp [h]
  · rw [beq_fi (by omega)]; simp [h]
theorem isRegister_eq (N : Nat) (r : RegT) : g_impl_isRegister N r = some (okReg r) := by
  unfold g_impl_isRegister okReg inB
  simp only [isByte_eq, within_eq, Option.bind_some, len32]
  cases (decide (0 ≤ r.1) && decide (r.1 ≤ 255)) <;> cases (decide (1 ≤ r.2.1) && decide (r.2.1 ≤ 1000000)) <;> rfl
theorem l08Register_eq (N : Nat) (r : RegT) : g_spec_l08Register N r = some (okReg r) := by
  unfold g_spec_l08Register okReg inB
  simp only [l01In_eq, Option.bind_some, len32]
  cases (decide (0 ≤ r.1) && decide (r.1 ≤ 255)) <;> cases (decide (1 ≤ r.2.1) && decide (r.2.1 ≤ 1000000)) <;> rfl
theorem isSession_eq (N : Nat) (r : SesT) : g_impl_isSession N r = some (okSes r) := by
  unfold g_impl_isSession okSes inB
  simp only [within_eq, isCode_eq, Option.bind_some]
  cases (decide (0 ≤ r.1) && decide (r.1 ≤ 65535)) <;> cases (decide (1 ≤ r.2.1) && decide (r.2.1 ≤ 65535)) <;> cases (decide (0 ≤ r.2.2.1) && decide (r.2.2.1 ≤ 19)) <;> rfl
theorem allRegister_eq {N : Nat} (c : List RegT) (hc : c.length < N) (hc2 : c.length ≤ 9223372036854775000) : g_impl_areAll_impl_Register__b_impl_isRegister_ N c = some (c.all okReg) := by
  have key : ∀ n c0 c1 m, g_slices_IndexFunc_Simpl_Register_impl_Register__b_impl_areAll_impl_Register_1P_impl_isRegister__.l2 N n c0 c1 m = idxL (g_impl_areAll_impl_Register_1__bP_impl_isRegister_ N) n c0 c1 m := by
    intro n c0 c1
    induction n with
    | zero => intro m; rfl
    | succ n ih => intro m; simp only [g_slices_IndexFunc_Simpl_Register_impl_Register__b_impl_areAll_impl_Register_1P_impl_isRegister__.l2, idxL, ih]
  unfold g_impl_areAll_impl_Register__b_impl_isRegister_ g_slices_ContainsFunc_Simpl_Register_impl_Register__b_impl_areAll_impl_Register_1P_impl_isRegister__ g_slices_IndexFunc_Simpl_Register_impl_Register__b_impl_areAll_impl_Register_1P_impl_isRegister__
  rw [key, contains_eq (q := fun r => !okReg r) c (fun x _ => by unfold g_impl_areAll_impl_Register_1__bP_impl_isRegister_; rw [isRegister_eq]; rfl) hc hc2, Option.bind_some, List.all_eq_not_any_not]
theorem allSession_eq {N : Nat} (c : List SesT) (hc : c.length < N) (hc2 : c.length ≤ 9223372036854775000) : g_impl_areAll_impl_Session__b_impl_isSession_ N c = some (c.all okSes) := by
  have key : ∀ n c0 c1 m, g_slices_IndexFunc_Simpl_Session_impl_Session__b_impl_areAll_impl_Session_1P_impl_isSession__.l2 N n c0 c1 m = idxL (g_impl_areAll_impl_Session_1__bP_impl_isSession_ N) n c0 c1 m := by
    intro n c0 c1
    induction n with
    | zero => intro m; rfl
    | succ n ih => intro m; simp only [g_slices_IndexFunc_Simpl_Session_impl_Session__b_impl_areAll_impl_Session_1P_impl_isSession__.l2, idxL, ih]
  unfold g_impl_areAll_impl_Session__b_impl_isSession_ g_slices_ContainsFunc_Simpl_Session_impl_Session__b_impl_areAll_impl_Session_1P_impl_isSession__ g_slices_IndexFunc_Simpl_Session_impl_Session__b_impl_areAll_impl_Session_1P_impl_isSession__
  rw [key, contains_eq (q := fun r => !okSes r) c (fun x _ => by unfold g_impl_areAll_impl_Session_1__bP_impl_isSession_; rw [isSession_eq]; rfl) hc hc2, Option.bind_some, List.all_eq_not_any_not]
theorem risRegister_eq {N : Nat} (c : List RegT) (hc : c.length < N) (hc2 : c.length ≤ 9223372036854775000) : g_impl_areRising_impl_Register__b_impl_BankOK_1_ N c = some (risA (·.1) c) := by
  have key : ∀ n c0 m, g_impl_areRising_impl_Register__b_impl_BankOK_1_.l2 N n c0 m = risL (g_impl_BankOK_1 N) n c0 m := by
    intro n c0
    induction n with
    | zero => intro m; rfl
    | succ n ih => intro m; simp only [g_impl_areRising_impl_Register__b_impl_BankOK_1_.l2, risL, ih]
  unfold g_impl_areRising_impl_Register__b_impl_BankOK_1_
  rw [key]
  exact risS_eq c (fun x _ => rfl) hc hc2
theorem risSession_eq {N : Nat} (c : List SesT) (hc : c.length < N) (hc2 : c.length ≤ 9223372036854775000) : g_impl_areRising_impl_Session__b_impl_BankOK_2_ N c = some (risA (·.1) c) := by
  have key : ∀ n c0 m, g_impl_areRising_impl_Session__b_impl_BankOK_2_.l2 N n c0 m = risL (g_impl_BankOK_2 N) n c0 m := by
    intro n c0
    induction n with
    | zero => intro m; rfl
    | succ n ih => intro m; simp only [g_impl_areRising_impl_Session__b_impl_BankOK_2_.l2, risL, ih]
  unfold g_impl_areRising_impl_Session__b_impl_BankOK_2_
  rw [key]
  exact risS_eq c (fun x _ => rfl) hc hc2
theorem BankOK_eq {N : Nat} (hN : 18446744073709551616 ≤ N) (b : BankT) (h1 : b.1.length ≤ 140737488355328) (h2 : b.2.length ≤ 140737488355328) : g_impl_BankOK N b = some (okBank b) := by
  unfold g_impl_BankOK okBank
  simp only [allRegister_eq b.1 (N := N) (by omega) (by omega), allSession_eq b.2 (N := N) (by omega) (by omega), risRegister_eq b.1 (N := N) (by omega) (by omega), risSession_eq b.2 (N := N) (by omega) (by omega), Option.bind_some]
  by_cases e1 : b.1.length ≤ 6 <;> by_cases e2 : b.2.length ≤ 6 <;> simp (disch := omega) only [dec_t, dec_f, decide_true, decide_false, cond_true, cond_false, Bool.true_and, Bool.and_self, e1, e2, decide_true, decide_false, Bool.false_and] <;>
    cases b.1.all okReg <;> cases risA (·.1) b.1 <;> cases b.2.all okSes <;> cases risA (·.1) b.2 <;> rfl
/-- The reference's loop: each is right, and greater than the one ahead. -/
def chkA {α : Type} (ok : α → Bool) (f : α → Int) (c : List α) (k : Nat) : Bool := (c.drop k).all ok && risA f (c.drop (k - 1))
theorem chkA_end {α : Type} (ok : α → Bool) (f : α → Int) (c : List α) (k : Nat) (h : c.length ≤ k) : chkA ok f c k = true := by
  unfold chkA
  rw [List.drop_of_length_le h]
  have : ∃ l, c.drop (k - 1) = l ∧ l.length ≤ 1 := ⟨_, rfl, by simp; omega⟩
  obtain ⟨l, e, hl⟩ := this
  rw [e]
  match l, hl with
  | [], _ => rfl
  | [_], _ => rfl
theorem chkA_zero {α : Type} (ok : α → Bool) (f : α → Int) (c : List α) (h : 0 < c.length) : chkA ok f c 0 = (ok c[0] && chkA ok f c 1) := by
  unfold chkA
  rw [show (0 - 1 : Nat) = 0 from rfl, show c.drop 0 = c[0] :: c.drop 1 from drop_get h, List.all_cons, Bool.and_assoc]
theorem chkA_succ {α : Type} (ok : α → Bool) (f : α → Int) (c : List α) (k : Nat) (h : k + 1 < c.length) : chkA ok f c (k + 1) = (ok c[k + 1] && (decide (f c[k] < f c[k + 1]) && chkA ok f c (k + 1 + 1))) := by
  unfold chkA
  rw [show k + 1 - 1 = k by omega, show k + 1 + 1 - 1 = k + 1 by omega, drop_get h, drop_get (show k < c.length by omega), drop_get h, List.all_cons, risA]
  cases ok c[k + 1] <;> cases decide (f c[k] < f c[k + 1]) <;> simp
theorem sBank_l4 (N : Nat) : ∀ (n : Nat) (k : Nat) (c : List RegT) (d : List SesT), c.length ≤ k + n - 1 → 0 < n → k ≤ c.length → c.length ≤ 140737488355328 →
    g_spec_BankOK.l4 N n (k : Int) c d = some (bif chkA okReg (·.1) c k then .inr (c, d) else .inl false)
  | 0, _, _, _, _, h, _, _ => by omega
  | n + 1, k, c, d, hn, _, hk, hc => by
    unfold g_spec_BankOK.l4
    by_cases h : k < c.length
    · simp (disch := omega) only [dec_t, cond_true, gd_true, Int.toNat_natCast, get_t, Option.bind_some, bind_id, nc1, wi_of, l08Register_eq]
      cases k with
      | zero =>
        rw [chkA_zero _ _ _ h]
        cases hok : okReg c[0]
        · simp
        · simp (disch := omega) only [dec_f, cond_false, Bool.not_true, Bool.true_and]
          exact sBank_l4 N n 1 c d (by omega) (by omega) (by omega) hc
      | succ k =>
        rw [chkA_succ _ _ _ _ h]
        cases hok : okReg c[k + 1]
        · simp
        · simp (disch := omega) only [dec_t, cond_true, cond_false, gd_true, Bool.not_true, Bool.true_and, Int.toNat_natCast, ncp]
          by_cases h2 : c[k].1 ≥ c[k + 1].1
          · simp (disch := omega) only [dec_t, dec_f, cond_true, cond_false, Bool.false_and]
          · simp (disch := omega) only [dec_t, dec_f, cond_false, Bool.true_and]
            exact sBank_l4 N n (k + 1 + 1) c d (by omega) (by omega) (by omega) hc
    · rw [chkA_end _ _ _ _ (by omega)]
      simp (disch := omega) only [dec_t, dec_f, cond_true, cond_false, gd_true, Int.toNat_natCast, bind_id, nc1, wi_of]
theorem sBank_l10 (N : Nat) : ∀ (n : Nat) (k : Nat) (d : List RegT) (c : List SesT), c.length ≤ k + n - 1 → 0 < n → k ≤ c.length → c.length ≤ 140737488355328 →
    g_spec_BankOK.l10 N n (k : Int) d c = some (bif chkA okSes (·.1) c k then .inr () else .inl false)
  | 0, _, _, _, _, h, _, _ => by omega
  | n + 1, k, d, c, hn, _, hk, hc => by
    unfold g_spec_BankOK.l10
    by_cases h : k < c.length
    · simp (disch := omega) only [dec_t, cond_true, gd_true, Int.toNat_natCast, get_t, Option.bind_some, bind_id, nc1, wi_of, l01In_eq]
      cases k with
      | zero =>
        rw [chkA_zero _ _ _ h]
        cases h1 : inB c[0].1 0 65535 <;> cases h2 : inB c[0].2.1 1 65535 <;> cases h3 : inB c[0].2.2.1 0 19 <;> cases h4 : inB c[0].2.2.2 0 1000000 <;> simp only [okSes, h1, h2, h3, h4] <;> simp only [inB] at h1 h2 h3 h4 <;> simp (disch := omega) only [h1, h2, h3, h4, dec_f, cond_true, cond_false, Bool.not_true, Bool.not_false, Bool.and_true, Bool.true_and, Bool.and_self, Bool.false_and]
        exact sBank_l10 N n 1 d c (by omega) (by omega) (by omega) hc
      | succ k =>
        rw [chkA_succ _ _ _ _ h]
        cases h1 : inB c[k + 1].1 0 65535 <;> cases h2 : inB c[k + 1].2.1 1 65535 <;> cases h3 : inB c[k + 1].2.2.1 0 19 <;> cases h4 : inB c[k + 1].2.2.2 0 1000000 <;> simp only [okSes, h1, h2, h3, h4] <;> simp only [inB] at h1 h2 h3 h4 <;> simp (disch := omega) only [h1, h2, h3, h4, dec_t, cond_true, cond_false, gd_true, Bool.not_true, Bool.not_false, Bool.and_true, Bool.true_and, Bool.and_self, Int.toNat_natCast, Bool.false_and, ncp]
        by_cases h2 : c[k].1 ≥ c[k + 1].1
        · simp (disch := omega) only [dec_t, dec_f, cond_true, cond_false, Bool.false_and]
        · simp (disch := omega) only [dec_t, dec_f, cond_false, Bool.true_and]
          exact sBank_l10 N n (k + 1 + 1) d c (by omega) (by omega) (by omega) hc
    · rw [chkA_end _ _ _ _ (by omega)]
      simp (disch := omega) only [dec_t, dec_f, cond_true, cond_false, gd_true, Int.toNat_natCast, bind_id, nc1, wi_of]
theorem sBankOK_eq {N : Nat} (hN : 18446744073709551616 ≤ N) (b : BankT) (h1 : b.1.length ≤ 140737488355328) (h2 : b.2.length ≤ 140737488355328) : g_spec_BankOK N b = some (okBank b) := by
  unfold g_spec_BankOK okBank
  by_cases e1 : b.1.length ≤ 6
  · by_cases e2 : b.2.length ≤ 6
    · have e3 := sBank_l4 N N 0 b.1 b.2 (by omega) (by omega) (by omega) h1
      have e4 := sBank_l10 N N 0 b.1 b.2 (by omega) (by omega) (by omega) h2
      simp only [Int.natCast_zero] at e3 e4
      simp (disch := omega) only [dec_f, decide_true, cond_false, Bool.true_and, Option.bind_some, e3, e1, e2, decide_true]
      unfold chkA at e3 e4
      unfold chkA
      simp only [List.drop_zero, Nat.zero_sub] at e4 ⊢
      cases h5 : b.1.all okReg <;> cases h6 : risA (·.1) b.1 <;> simp only [Bool.and_true, Bool.true_and, Bool.and_self, Bool.false_and, Bool.and_false, cond_true, cond_false, e4, Option.bind_some, alt_inl, alt_inr]
      cases b.2.all okSes <;> cases risA (·.1) b.2 <;> rfl
    · simp (disch := omega) only [dec_t, dec_f, decide_false, cond_true, cond_false, Bool.true_and, e2, decide_false, Bool.false_and, Bool.and_false]
  · simp (disch := omega) only [dec_t, decide_false, cond_true, e1, decide_false, Bool.false_and]
end Go.Vm
/- What is read of a bank's bytes, by the program and by the reference. -/
set_option linter.unusedVariables false
set_option maxRecDepth 100000
namespace Go.Vm
theorem drop_take' {α : Type} (l : List α) (a b : Nat) : (l.take (a + b)).drop a = (l.drop a).take b := by rw [List.drop_take]; congr 1; omega
theorem numB_take1 (t : List UInt8) (k : Nat) (h : k < t.length) : (numB ((t.drop k).take 1) : Int) = (t[k].toNat : Int) := by
  rw [drop_get h, List.take_succ_cons, List.take_zero]; simp only [numB, List.foldl_cons, List.foldl_nil, Nat.zero_mul, Nat.zero_add]
theorem l06Number_l3 (N : Nat) : ∀ (n : Nat) (m k : Nat) (c : List UInt8), c.length ≤ k + n - 1 → 0 < n → k ≤ c.length → c.length ≤ 7 → m < 256 ^ k →
    g_spec_l06Number.l3 N n c (m : Int) (k : Int) = some (((c.drop k).foldl (fun n c => n * 256 + c.toNat) m : Nat) : Int)
  | 0, _, _, _, _, h, _, _, _ => by omega
  | n + 1, m, k, c, hn, _, hk, hc, hm => by
    unfold g_spec_l06Number.l3
    by_cases h : k < c.length
    · have hm2 : m < 36028797018963968 := Nat.lt_of_lt_of_le hm (Nat.le_trans (Nat.pow_le_pow_right (by omega) (show k ≤ 6 by omega)) (by decide))
      have hc' := c[k].toNat_lt
      simp (disch := omega) only [dec_t, cond_true, gd_true, Int.toNat_natCast, get_t, Option.bind_some, bind_id, nc1, wi_u8, wi_of]
      rw [show ((m : Int) * 256 + (c[k].toNat : Int)) = ((m * 256 + c[k].toNat : Nat) : Int) by omega, l06Number_l3 N n _ (k + 1) c (by omega) (by omega) (by omega) hc (by rw [Nat.pow_succ]; omega), drop_get h]
      rfl
    · simp (disch := omega) only [dec_t, dec_f, cond_false, gd_true, Int.toNat_natCast, bind_id, nc1, wi_u8, wi_of, List.drop_of_length_le, List.foldl_nil]
theorem l06Number_eq {N : Nat} (hN : 18446744073709551616 ≤ N) (c : List UInt8) (hc : c.length ≤ 7) : g_spec_l06Number N c = some ((numB c : Nat) : Int) := by
  unfold g_spec_l06Number
  have := l06Number_l3 N N 0 0 c (by omega) (by omega) (by omega) hc (by simp)
  simp only [Int.natCast_zero] at this
  rw [this]; rfl
def rdReg (l : List UInt8) : RegT := ((numB (l.take 1) : Int), (numB ((l.drop 1).take 4) : Int), (l.drop 5).take 32)
def regsOf : Nat → List UInt8 → List RegT
  | 0, _ => []
  | n + 1, l => rdReg l :: regsOf n (l.drop 37)
def rdSes (l : List UInt8) : SesT := ((numB (l.take 2) : Int), (numB ((l.drop 2).take 2) : Int), (numB ((l.drop 4).take 1) : Int), (numB ((l.drop 5).take 4) : Int))
def sesOf : Nat → List UInt8 → List SesT
  | 0, _ => []
  | n + 1, l => rdSes l :: sesOf n (l.drop 9)
theorem regsOf_length : ∀ n l, (regsOf n l).length = n
  | 0, _ => rfl
  | n + 1, l => by simp [regsOf, regsOf_length]
theorem sesOf_length : ∀ n l, (sesOf n l).length = n
  | 0, _ => rfl
  | n + 1, l => by simp [sesOf, sesOf_length]
/-! ### The program -/
def stR (r : List UInt8 × Bool) : (List UInt8 × Bool) × RegT := ((tkR (tkR (tkR r 1).1 4).1 32).1, (numB (tkR r 1).2 : Int), (numB (tkR (tkR r 1).1 4).2 : Int), (tkR (tkR (tkR r 1).1 4).1 32).2)
def stS (r : List UInt8 × Bool) : (List UInt8 × Bool) × SesT :=
  ((tkR (tkR (tkR (tkR r 2).1 2).1 1).1 4).1, (numB (tkR r 2).2 : Int), (numB (tkR (tkR r 2).1 2).2 : Int), (numB (tkR (tkR (tkR r 2).1 2).1 1).2 : Int), (numB (tkR (tkR (tkR (tkR r 2).1 2).1 1).1 4).2 : Int))
theorem tkR_ok (b : List UInt8) (f : Bool) (n : Nat) (h : n ≤ b.length) : tkR (b, f) n = ((b.drop n, f), b.take n) := by
  unfold tkR; rw [if_neg (by simp; omega)]
theorem tkR_short (b : List UInt8) (f : Bool) (n : Nat) (h : b.length < n) : tkR (b, f) n = ((b, true), []) := by
  unfold tkR; rw [if_pos (by simpa using h)]
theorem tkR_fail (r : List UInt8 × Bool) (n : Nat) (h : r.2 = true) : (tkR r n).1.2 = true := by
  unfold tkR; split <;> simp [h]
theorem stR_ok (b : List UInt8) (f : Bool) (h : 37 ≤ b.length) : stR (b, f) = ((b.drop 37, f), rdReg b) := by
  unfold stR rdReg
  rw [tkR_ok b f 1 (by omega)]; dsimp only
  rw [tkR_ok (b.drop 1) f 4 (by simp; omega)]; dsimp only
  rw [tkR_ok ((b.drop 1).drop 4) f 32 (by simp; omega)]
  simp only [List.drop_drop]
theorem stR_fail (r : List UInt8 × Bool) (h : r.2 = true ∨ r.1.length < 37) : (stR r).1.2 = true := by
  obtain ⟨b, f⟩ := r
  unfold stR
  rcases h with h | h
  · exact tkR_fail _ _ (tkR_fail _ _ (tkR_fail _ _ h))
  · by_cases h1 : b.length < 1
    · exact tkR_fail _ _ (tkR_fail _ _ (by rw [tkR_short b f 1 h1]))
    · rw [tkR_ok b f 1 (by omega)]; dsimp only
      by_cases h2 : (b.drop 1).length < 4
      · exact tkR_fail _ _ (by rw [tkR_short _ f 4 h2])
      · rw [tkR_ok (b.drop 1) f 4 (by omega)]; dsimp only
        rw [tkR_short _ _ _ (by simp at h2 h ⊢; omega)]
theorem stS_ok (b : List UInt8) (f : Bool) (h : 9 ≤ b.length) : stS (b, f) = ((b.drop 9, f), rdSes b) := by
  unfold stS rdSes
  rw [tkR_ok b f 2 (by omega)]; dsimp only
  rw [tkR_ok (b.drop 2) f 2 (by simp; omega)]; dsimp only
  rw [tkR_ok ((b.drop 2).drop 2) f 1 (by simp; omega)]; dsimp only
  rw [tkR_ok _ f 4 (by simp; omega)]
  simp only [List.drop_drop]
theorem stS_fail (r : List UInt8 × Bool) (h : r.2 = true ∨ r.1.length < 9) : (stS r).1.2 = true := by
  obtain ⟨b, f⟩ := r
  unfold stS
  rcases h with h | h
  · exact tkR_fail _ _ (tkR_fail _ _ (tkR_fail _ _ (tkR_fail _ _ h)))
  · by_cases h1 : b.length < 2
    · exact tkR_fail _ _ (tkR_fail _ _ (tkR_fail _ _ (by rw [tkR_short b f 2 h1])))
    · rw [tkR_ok b f 2 (by omega)]; dsimp only
      by_cases h2 : (b.drop 2).length < 2
      · exact tkR_fail _ _ (tkR_fail _ _ (by rw [tkR_short _ f 2 h2]))
      · rw [tkR_ok (b.drop 2) f 2 (by omega)]; dsimp only
        by_cases h3 : ((b.drop 2).drop 2).length < 1
        · exact tkR_fail _ _ (by rw [tkR_short _ f 1 h3])
        · rw [tkR_ok _ f 1 (by omega)]; dsimp only
          rw [tkR_short _ _ _ (by simp at h2 h h3 ⊢; omega)]
theorem iBank_l6 {N : Nat} (hN : 18446744073709551616 ≤ N) : ∀ (n c k : Nat) (b : List UInt8) (f : Bool) (acc : List RegT), c ≤ k + n - 1 → 0 < n → k ≤ c → c ≤ 255 → acc.length = k →
    (37 * (c - k) ≤ b.length → g_impl_ReadBank.l6 N n (c : Int) (k : Int) b f acc = some (b.drop (37 * (c - k)), f, acc ++ regsOf (c - k) b)) ∧
    ((f = true ∨ b.length < 37 * (c - k)) → ∃ b' acc', g_impl_ReadBank.l6 N n (c : Int) (k : Int) b f acc = some (b', true, acc') ∧ acc'.length ≤ 255)
  | 0, _, _, _, _, _, _, h, _, _, _ => by omega
  | n + 1, c, k, b, f, acc, hn, _, hk, hc, hl => by
    unfold g_impl_ReadBank.l6
    by_cases h : k < c
    · have e1 : ∀ r, g_impl_reader_number__pb N r 1 = _ := fun r => number_eq hN r 1 (by omega)
      have e4 : ∀ r, g_impl_reader_number__pb N r 4 = _ := fun r => number_eq hN r 4 (by omega)
      have e32 : ∀ r, g_impl_reader_take__pb N r 32 = _ := fun r => take_eq N r 32
      simp (disch := omega) only [dec_t, cond_true, gd_true, Option.bind_some, bind_id, nc1, wi_of, room_t, List.length_cons, List.length_nil, e1, e4, e32]
      have ih := iBank_l6 hN n c (k + 1) (stR (b, f)).1.1 (stR (b, f)).1.2 (acc ++ [(stR (b, f)).2]) (by omega) (by omega) (by omega) hc (by simp [hl])
      refine ⟨fun hb => ?_, fun hb => ?_⟩
      · have h37 : 37 ≤ b.length := by omega
        have := ih.1 (by rw [stR_ok b f h37]; simp; omega)
        refine this.trans ?_
        rw [stR_ok b f h37]
        simp only [List.drop_drop, List.append_assoc, List.singleton_append]
        rw [show c - k = (c - (k + 1)) + 1 by omega, regsOf, show 37 + 37 * (c - (k + 1)) = 37 * (c - (k + 1) + 1) by omega]
      · refine ih.2 ?_
        by_cases h37 : f = true ∨ b.length < 37
        · exact .inl (stR_fail _ h37)
        · rw [not_or] at h37
          rw [stR_ok b f (by omega)]
          rcases hb with hb | hb
          · exact absurd hb h37.1
          · refine .inr ?_
            simp only [List.length_drop]
            omega
    · have e : c - k = 0 := by omega
      simp (disch := omega) only [dec_f, cond_false, gd_true, bind_id, nc1, wi_of, room_t, List.length_cons, List.length_nil, e, Nat.mul_zero, List.drop_zero, regsOf, List.append_nil]
      exact ⟨fun _ => trivial, fun hb => ⟨b, acc, by rcases hb with hb | hb; (· rw [hb]); omega, by omega⟩⟩
theorem iBank_l10 {N : Nat} (hN : 18446744073709551616 ≤ N) : ∀ (n c k : Nat) (b : List UInt8) (f : Bool) (rs : List RegT) (acc : List SesT), c ≤ k + n - 1 → 0 < n → k ≤ c → c ≤ 255 → acc.length = k →
    (9 * (c - k) ≤ b.length → g_impl_ReadBank.l10 N n (c : Int) (k : Int) b f rs acc = some (b.drop (9 * (c - k)), f, rs, acc ++ sesOf (c - k) b)) ∧
    ((f = true ∨ b.length < 9 * (c - k)) → ∃ b' rs' acc', g_impl_ReadBank.l10 N n (c : Int) (k : Int) b f rs acc = some (b', true, rs', acc'))
  | 0, _, _, _, _, _, _, _, h, _, _, _ => by omega
  | n + 1, c, k, b, f, rs, acc, hn, _, hk, hc, hl => by
    unfold g_impl_ReadBank.l10
    by_cases h : k < c
    · have e1 : ∀ r, g_impl_reader_number__pb N r 1 = _ := fun r => number_eq hN r 1 (by omega)
      have e2 : ∀ r, g_impl_reader_number__pb N r 2 = _ := fun r => number_eq hN r 2 (by omega)
      have e4 : ∀ r, g_impl_reader_number__pb N r 4 = _ := fun r => number_eq hN r 4 (by omega)
      simp (disch := omega) only [dec_t, cond_true, gd_true, Option.bind_some, bind_id, nc1, wi_of, room_t, List.length_cons, List.length_nil, e1, e4, e2]
      have ih := iBank_l10 hN n c (k + 1) (stS (b, f)).1.1 (stS (b, f)).1.2 rs (acc ++ [(stS (b, f)).2]) (by omega) (by omega) (by omega) hc (by simp [hl])
      refine ⟨fun hb => ?_, fun hb => ?_⟩
      · have h37 : 9 ≤ b.length := by omega
        have := ih.1 (by rw [stS_ok b f h37]; simp; omega)
        refine this.trans ?_
        rw [stS_ok b f h37]
        simp only [List.drop_drop, List.append_assoc, List.singleton_append]
        rw [show c - k = (c - (k + 1)) + 1 by omega, sesOf, show 9 + 9 * (c - (k + 1)) = 9 * (c - (k + 1) + 1) by omega]
      · refine ih.2 ?_
        by_cases h37 : f = true ∨ b.length < 9
        · exact .inl (stS_fail _ h37)
        · rw [not_or] at h37
          rw [stS_ok b f (by omega)]
          rcases hb with hb | hb
          · exact absurd hb h37.1
          · refine .inr ?_
            simp only [List.length_drop]
            omega
    · have e : c - k = 0 := by omega
      simp (disch := omega) only [dec_f, cond_false, gd_true, bind_id, nc1, wi_of, room_t, List.length_cons, List.length_nil, e, Nat.mul_zero, List.drop_zero, sesOf, List.append_nil]
      exact ⟨fun _ => trivial, fun hb => ⟨b, rs, acc, by rcases hb with hb | hb; (· rw [hb]); omega⟩⟩
/-! ### The reference -/
theorem sRead_l9 {N : Nat} (hN : 18446744073709551616 ≤ N) (t : List UInt8) (ht : t.length ≤ 65536) : ∀ (n i k : Nat) (acc : List RegT) (ss : List SesT), i < n → k ≤ t.length → i ≤ 255 → acc.length + i ≤ 255 →
    g_spec_ReadBank.l9 N n t (k : Int) (i : Int) acc ss = some (((k + 37 * min i ((t.length - k) / 37) : Nat) : Int), acc ++ regsOf (min i ((t.length - k) / 37)) (t.drop k), ss)
  | 0, _, _, _, _, h, _, _, _ => by omega
  | n + 1, i, k, acc, ss, hn, hk, hi, ha => by
    unfold g_spec_ReadBank.l9
    cases i with
    | zero => simp (disch := omega) only [dec_t, dec_f, cond_false, gd_true, Bool.true_and, Int.toNat_natCast, bind_id, nc1, wi_u8, wi_of, room_t, List.length_cons, List.length_nil, Nat.zero_min, Nat.mul_zero, Nat.add_zero, regsOf, List.append_nil]
    | succ i =>
      by_cases h : k + 37 ≤ t.length
      · have a1 : wi ((k : Int) + 1) = ((k + 1 : Nat) : Int) := by rw [wi_of] <;> omega
        have a5 : wi ((k : Int) + 5) = ((k + 5 : Nat) : Int) := by rw [wi_of] <;> omega
        have a37 : wi ((k : Int) + 37) = ((k + 37 : Nat) : Int) := by rw [wi_of] <;> omega
        have b1 : (t.take (k + 5)).drop (k + 1) = ((t.drop k).drop 1).take 4 := by rw [show k + 5 = (k + 1) + 4 by omega, drop_take', List.drop_drop]
        have b2 : (t.take (k + 37)).drop (k + 5) = ((t.drop k).drop 5).take 32 := by rw [show k + 37 = (k + 5) + 32 by omega, drop_take', List.drop_drop]
        simp (disch := omega) only [a1, a5, a37]
        simp (disch := omega) only [dec_t, cond_true, gd_true, Bool.and_self, Int.toNat_natCast, get_t, Option.bind_some, bind_id, wi_u8, wi_of, room_t, List.length_cons, List.length_nil, ncp, b1, b2]
        rw [l06Number_eq hN _ (by simp; omega), Option.bind_some]
        rw [sRead_l9 hN t ht n i (k + 37) _ ss (by omega) (by omega) (by omega) (by simp; omega)]
        have e : min (i + 1) ((t.length - k) / 37) = min i ((t.length - (k + 37)) / 37) + 1 := by omega
        have e2 : (numB ((t.drop k).take 1) : Int) = (t[k].toNat : Int) := numB_take1 t k (by omega)
        rw [e, regsOf, rdReg, e2]
        simp only [List.drop_drop, List.append_assoc, List.singleton_append, Option.some.injEq, Prod.mk.injEq, and_true]
        omega
      · have e : (t.length - k) / 37 = 0 := by omega
        have a37 : wi ((k : Int) + 37) = ((k + 37 : Nat) : Int) := by rw [wi_of] <;> omega
        simp (disch := omega) only [a37]
        simp (disch := omega) only [dec_t, dec_f, cond_true, cond_false, gd_true, Bool.true_and, Int.toNat_natCast, bind_id, nc1, wi_u8, wi_of, room_t, List.length_cons, List.length_nil, e, Nat.min_zero, Nat.mul_zero, Nat.add_zero, regsOf, List.append_nil]
theorem sRead_l18 {N : Nat} (hN : 18446744073709551616 ≤ N) (t : List UInt8) (ht : t.length ≤ 65536) : ∀ (n i k : Nat) (rs : List RegT) (acc : List SesT), i < n → k ≤ t.length → i ≤ 255 → acc.length + i ≤ 255 →
    g_spec_ReadBank.l18 N n t (k : Int) (i : Int) rs acc = some (rs, acc ++ sesOf (min i ((t.length - k) / 9)) (t.drop k))
  | 0, _, _, _, _, h, _, _, _ => by omega
  | n + 1, i, k, rs, acc, hn, hk, hi, ha => by
    unfold g_spec_ReadBank.l18
    cases i with
    | zero => simp (disch := omega) only [dec_t, dec_f, cond_false, gd_true, Bool.true_and, Int.toNat_natCast, bind_id, wi_u8, wi_of, room_t, List.length_cons, List.length_nil, Nat.zero_min, sesOf, List.append_nil]
    | succ i =>
      by_cases h : k + 9 ≤ t.length
      · have a2 : wi ((k : Int) + 2) = ((k + 2 : Nat) : Int) := by rw [wi_of] <;> omega
        have a4 : wi ((k : Int) + 4) = ((k + 4 : Nat) : Int) := by rw [wi_of] <;> omega
        have a5 : wi ((k : Int) + 5) = ((k + 5 : Nat) : Int) := by rw [wi_of] <;> omega
        have a9 : wi ((k : Int) + 9) = ((k + 9 : Nat) : Int) := by rw [wi_of] <;> omega
        have b1 : (t.take (k + 2)).drop k = (t.drop k).take 2 := drop_take' _ _ _
        have b2 : (t.take (k + 4)).drop (k + 2) = ((t.drop k).drop 2).take 2 := by rw [show k + 4 = (k + 2) + 2 by omega, drop_take', List.drop_drop]
        have b3 : (t.take (k + 9)).drop (k + 5) = ((t.drop k).drop 5).take 4 := by rw [show k + 9 = (k + 5) + 4 by omega, drop_take', List.drop_drop]
        simp (disch := omega) only [a2, a4, a5, a9]
        simp (disch := omega) only [dec_t, cond_true, gd_true, Bool.and_self, Int.toNat_natCast, get_t, Option.bind_some, bind_id, wi_u8, wi_of, room_t, List.length_cons, List.length_nil, ncp, b1, b2, b3]
        rw [l06Number_eq hN _ (by simp; omega), Option.bind_some, l06Number_eq hN _ (by simp; omega), Option.bind_some, l06Number_eq hN _ (by simp; omega), Option.bind_some]
        rw [sRead_l18 hN t ht n i (k + 9) rs _ (by omega) (by omega) (by omega) (by simp; omega)]
        have e : min (i + 1) ((t.length - k) / 9) = min i ((t.length - (k + 9)) / 9) + 1 := by omega
        have e2 : (numB (((t.drop k).drop 4).take 1) : Int) = (t[k + 4].toNat : Int) := by rw [List.drop_drop]; exact numB_take1 t (k + 4) (by omega)
        rw [e, sesOf, rdSes, e2]
        simp only [List.drop_drop, List.append_assoc, List.singleton_append]
      · have e : (t.length - k) / 9 = 0 := by omega
        have a9 : wi ((k : Int) + 9) = ((k + 9 : Nat) : Int) := by rw [wi_of] <;> omega
        simp (disch := omega) only [a9]
        simp (disch := omega) only [dec_t, dec_f, cond_true, cond_false, gd_true, Bool.true_and, Int.toNat_natCast, bind_id, wi_u8, wi_of, room_t, List.length_cons, List.length_nil, e, Nat.min_zero, sesOf, List.append_nil]
end Go.Vm
/- A bank's bytes; the program reads what the reference reads. -/
set_option linter.unusedVariables false
set_option maxRecDepth 100000
namespace Go.Vm
def fourB (n : Int) : List UInt8 := [wb (n / 16777216), wb (n / 65536), wb (n / 256), wb n]
def twoB (n : Int) : List UInt8 := [wb (n.tdiv 256), wb n]
theorem l02Four_eq (N : Nat) (n : Int) : g_spec_l02Four N n = some (fourB n) := by
  unfold g_spec_l02Four fourB; simp only [shr8, shr16, shr24]
theorem wb_wi (x : Int) : wb (wi x) = wb x := by
  apply wb_eq; unfold wi IntKind.wrap; simp [IntKind.bits, IntKind.signed]; omega
theorem l08Two_eq (N : Nat) (n : Int) : g_spec_l08Two N n = some (twoB n) := by
  unfold g_spec_l08Two twoB; simp only [wb_wi]
def regB (r : RegT) : List UInt8 := wb r.1 :: (fourB r.2.1 ++ r.2.2)
def sesB (s : SesT) : List UInt8 := twoB s.1 ++ (twoB s.2.1 ++ (wb s.2.2.1 :: fourB s.2.2.2))
def bankB (b : BankT) : List UInt8 := wb (b.1.length : Int) :: (b.1.flatMap regB ++ wb (b.2.length : Int) :: b.2.flatMap sesB)
theorem sesB_length (s : SesT) : (sesB s).length = 9 := rfl
theorem regB_length (r : RegT) : (regB r).length = 5 + r.2.2.length := by simp [regB, fourB]; omega
theorem sBytes_l3 (N : Nat) : ∀ (n k : Nat) (c : List RegT) (d : List SesT) (acc : List UInt8), c.length ≤ k + n - 1 → 0 < n → k ≤ c.length → c.length ≤ 1000000000 → acc.length + ((c.drop k).flatMap regB).length ≤ 100000000000 →
    g_spec_l08Bytes.l3 N n (k : Int) c d acc = some (c, d, acc ++ (c.drop k).flatMap regB)
  | 0, _, _, _, _, _, h, _, _, _ => by omega
  | n + 1, k, c, d, acc, hn, _, hk, hc, ha => by
    unfold g_spec_l08Bytes.l3
    by_cases h : k < c.length
    · rw [drop_get h] at ha ⊢
      simp only [List.flatMap_cons, List.length_append, regB_length] at ha
      simp (disch := omega) only [dec_t, cond_true, gd_true, Int.toNat_natCast, get_t, Option.bind_some, bind_id, nc1, wi_of, room_t, List.length_append, List.length_cons, List.length_nil, l02Four_eq, fourB]
      rw [sBytes_l3 N n (k + 1) c d _ (by omega) (by omega) (by omega) hc (by simp only [List.length_append, List.length_cons, List.length_nil]; omega)]
      simp only [regB, fourB, List.flatMap_cons, List.append_assoc, List.cons_append, List.nil_append]
    · simp (disch := omega) only [dec_t, dec_f, cond_false, gd_true, Int.toNat_natCast, bind_id, nc1, wi_of, room_t, List.length_append, List.length_cons, List.length_nil, List.drop_of_length_le, List.flatMap_nil, List.append_nil]
theorem sBytes_l10 (N : Nat) : ∀ (n k : Nat) (d : List RegT) (c : List SesT) (acc : List UInt8), c.length ≤ k + n - 1 → 0 < n → k ≤ c.length → c.length ≤ 1000000000 → acc.length + 9 * (c.length - k) ≤ 200000000000 →
    g_spec_l08Bytes.l10 N n (k : Int) d c acc = some (acc ++ (c.drop k).flatMap sesB)
  | 0, _, _, _, _, _, h, _, _, _ => by omega
  | n + 1, k, d, c, acc, hn, _, hk, hc, ha => by
    unfold g_spec_l08Bytes.l10
    by_cases h : k < c.length
    · rw [drop_get h]
      simp (disch := omega) only [dec_t, cond_true, gd_true, Int.toNat_natCast, get_t, Option.bind_some, bind_id, nc1, wi_of, room_t, List.length_append, List.length_cons, List.length_nil, l08Two_eq, l02Four_eq, fourB, twoB]
      rw [sBytes_l10 N n (k + 1) d c _ (by omega) (by omega) (by omega) hc (by simp only [List.length_append, List.length_cons, List.length_nil]; omega)]
      simp only [sesB, fourB, twoB, List.flatMap_cons, List.append_assoc, List.cons_append, List.nil_append]
    · simp (disch := omega) only [dec_t, dec_f, cond_false, gd_true, Int.toNat_natCast, bind_id, nc1, wi_of, List.length_append, List.length_cons, List.length_nil, List.drop_of_length_le, List.flatMap_nil, List.append_nil]
theorem flatMap_sesB_length (c : List SesT) : (c.flatMap sesB).length = 9 * c.length := by
  induction c with
  | nil => rfl
  | cons x c ih => rw [List.flatMap_cons, List.length_append, ih, sesB_length, List.length_cons]; omega
theorem l08Bytes_eq {N : Nat} (hN : 18446744073709551616 ≤ N) (b : BankT) (h1 : b.1.length ≤ 1000000000) (h2 : b.2.length ≤ 1000000000) (h3 : (b.1.flatMap regB).length ≤ 10000000000) : g_spec_l08Bytes N b = some (bankB b) := by
  have e3 := sBytes_l3 N N 0 b.1 b.2 [wb (b.1.length : Int)] (by omega) (by omega) (by omega) h1 (by simp only [List.length_cons, List.length_nil, List.drop_zero]; omega)
  have e4 := sBytes_l10 N N 0 b.1 b.2 ([wb (b.1.length : Int)] ++ b.1.flatMap regB ++ [wb (b.2.length : Int)]) (by omega) (by omega) (by omega) h2 (by simp only [List.length_append, List.length_cons, List.length_nil]; omega)
  simp only [Int.natCast_zero, List.drop_zero] at e3 e4
  unfold g_spec_l08Bytes
  simp (disch := omega) only [gd_true, Option.bind_some, bind_id, room_t, List.length_append, List.length_cons, List.length_nil, e3, e4]
  simp [bankB]
/-! ### Bytes that were read -/
theorem wb_numB (l : List UInt8) (h : l.length = 1) : [wb (numB l : Int)] = l := by
  match l, h with
  | [a], _ => simp [numB, wb_nat]
theorem byte_eq {x : Int} {a : UInt8} (h : x % 256 = (a.toNat : Int)) : wb x = a := by
  apply UInt8.toNat_inj.1
  have := toNat_wb x
  omega
theorem fourB_numB (l : List UInt8) (h : l.length = 4) : fourB (numB l : Int) = l := by
  match l, h with
  | [a, b, c, d], _ =>
    have ha := a.toNat_lt; have hb := b.toNat_lt; have hc := c.toNat_lt; have hd := d.toNat_lt
    have e : numB [a, b, c, d] = ((a.toNat * 256 + b.toNat) * 256 + c.toNat) * 256 + d.toNat := by simp [numB]
    rw [e]
    unfold fourB
    rw [byte_eq (a := a) (by omega), byte_eq (a := b) (by omega), byte_eq (a := c) (by omega), byte_eq (a := d) (by omega)]
theorem twoB_numB (l : List UInt8) (h : l.length = 2) : twoB (numB l : Int) = l := by
  match l, h with
  | [a, b], _ =>
    have ha := a.toNat_lt; have hb := b.toNat_lt
    have e : numB [a, b] = a.toNat * 256 + b.toNat := by simp [numB]
    rw [e]
    unfold twoB
    rw [byte_eq (a := a) (by rw [Int.tdiv_eq_ediv_of_nonneg (by omega)]; omega), byte_eq (a := b) (by omega)]
theorem regB_rdReg (l : List UInt8) (h : 37 ≤ l.length) : regB (rdReg l) = l.take 37 := by
  have e1 : wb (numB (l.take 1) : Int) :: (fourB (numB ((l.drop 1).take 4) : Int) ++ (l.drop 5).take 32) = [wb (numB (l.take 1) : Int)] ++ (fourB (numB ((l.drop 1).take 4) : Int) ++ (l.drop 5).take 32) := rfl
  unfold regB rdReg
  dsimp only
  rw [e1, wb_numB _ (by simp; omega), fourB_numB _ (by simp; omega), show 37 = 1 + 36 from rfl, List.take_add, show 36 = 4 + 32 from rfl, List.take_add (l := l.drop 1), List.drop_drop]
theorem sesB_rdSes (l : List UInt8) (h : 9 ≤ l.length) : sesB (rdSes l) = l.take 9 := by
  have e1 : sesB (rdSes l) = twoB (numB (l.take 2) : Int) ++ (twoB (numB ((l.drop 2).take 2) : Int) ++ ([wb (numB ((l.drop 4).take 1) : Int)] ++ fourB (numB ((l.drop 5).take 4) : Int))) := rfl
  rw [e1, wb_numB _ (by simp; omega), fourB_numB _ (by simp; omega), twoB_numB _ (by simp; omega), twoB_numB _ (by simp; omega), show 9 = 2 + (2 + (1 + 4)) from rfl, List.take_add, List.take_add (l := l.drop 2), List.take_add (l := (l.drop 2).drop 2)]
  simp only [List.drop_drop]
theorem flatMap_regsOf : ∀ (n : Nat) (l : List UInt8), 37 * n ≤ l.length → (regsOf n l).flatMap regB = l.take (37 * n)
  | 0, l, _ => by simp [regsOf]
  | n + 1, l, h => by
    rw [regsOf, List.flatMap_cons, regB_rdReg l (by omega), flatMap_regsOf n _ (by simp; omega), show 37 * (n + 1) = 37 + 37 * n by omega, List.take_add]
theorem flatMap_sesOf : ∀ (n : Nat) (l : List UInt8), 9 * n ≤ l.length → (sesOf n l).flatMap sesB = l.take (9 * n)
  | 0, l, _ => by simp [sesOf]
  | n + 1, l, h => by
    rw [sesOf, List.flatMap_cons, sesB_rdSes l (by omega), flatMap_sesOf n _ (by simp; omega), show 9 * (n + 1) = 9 + 9 * n by omega, List.take_add]
/-- What a bank's bytes tell. -/
def rdBank (t : List UInt8) : BankT × Int :=
  if 65536 < t.length then (([], []), 2) else
  match t with
  | [] => (([], []), 3)
  | a :: t1 =>
    if t1.length < 37 * a.toNat then (([], []), 3) else
    match t1.drop (37 * a.toNat) with
    | [] => (([], []), 3)
    | c :: t2 =>
      if t2.length = 9 * c.toNat ∧ okBank (regsOf a.toNat t1, sesOf c.toNat t2) = true then ((regsOf a.toNat t1, sesOf c.toNat t2), 0) else (([], []), 3)
theorem isLong1_eq {N : Nat} (hN : 18446744073709551616 ≤ N) (t : List UInt8) : g_impl_isLong_Sbyte N [t] = some (decide (65536 < t.length)) := by
  have key : ∀ n c0 c1 m, g_slices_IndexFunc_SSbyte_Sbyte__b_impl_isLong_Sbyte_1_.l2 N n c0 c1 m = idxL (g_impl_isLong_Sbyte_1 N) n c0 c1 m := by
    intro n c0 c1
    induction n with
    | zero => intro m; rfl
    | succ n ih => intro m; simp only [g_slices_IndexFunc_SSbyte_Sbyte__b_impl_isLong_Sbyte_1_.l2, idxL, ih]
  unfold g_impl_isLong_Sbyte g_slices_ContainsFunc_SSbyte_Sbyte__b_impl_isLong_Sbyte_1_ g_slices_IndexFunc_SSbyte_Sbyte__b_impl_isLong_Sbyte_1_
  rw [key, contains_eq (p := g_impl_isLong_Sbyte_1 N) (q := fun r => decide ((r.length : Int) > 65536)) [t] (fun x _ => rfl) (by simp; omega) (by simp), bind_id]
  simp only [List.any_cons, List.any_nil, Bool.or_false, Option.some.injEq]
  by_cases h : 65536 < t.length
  · rw [dec_t h, dec_t (by omega)]
  · rw [dec_f h, dec_f (by omega)]
theorem iReadBank_eq {N : Nat} (hN : 18446744073709551616 ≤ N) (t : List UInt8) : g_impl_ReadBank N t = some (rdBank t) := by
  unfold g_impl_ReadBank rdBank
  rw [isLong1_eq hN, Option.bind_some]
  by_cases h0 : 65536 < t.length
  · simp only [h0, decide_true, cond_true, if_true]
  · simp only [h0, decide_false, cond_false, if_false]
    have e1 : ∀ r, g_impl_reader_number__pb N r 1 = _ := fun r => number_eq hN r 1 (by omega)
    rw [e1, Option.bind_some]
    cases t with
    | nil =>
      have hb : (numB (tkR (([] : List UInt8), false) 1).2 : Int) = ((0 : Nat) : Int) := rfl
      dsimp only
      rw [hb, show (0 : Int) = ((0 : Nat) : Int) from rfl]
      obtain ⟨b', acc', h1, h2⟩ := (iBank_l6 hN N 0 0 (tkR (([] : List UInt8), false) 1).1.1 (tkR (([] : List UInt8), false) 1).1.2 [] (by omega) (by omega) (by omega) (by omega) rfl).2 (.inl rfl)
      rw [h1, Option.bind_some]
      dsimp only
      rw [e1, Option.bind_some]
      have hf := tkR_fail (b', true) 1 rfl
      have hl := numB_lt (tkR (b', true) 1).2
      have hl2 : (tkR (b', true) 1).2.length ≤ 1 := by unfold tkR; split <;> simp; omega
      have hl3 := Nat.pow_le_pow_right (show 0 < 256 by omega) hl2
      obtain ⟨b2, rs2, acc2, h3⟩ := (iBank_l10 hN N (numB (tkR (b', true) 1).2) 0 _ _ acc' [] (by omega) (by omega) (by omega) (by omega) rfl).2 (.inl hf)
      dsimp only
      rw [h3]; rfl
    | cons a t1 =>
      rw [tkR_ok (a :: t1) false 1 (by simp)]
      have ha := a.toNat_lt
      have hb : (numB ((a :: t1).take 1) : Int) = ((a.toNat : Nat) : Int) := by simp [numB]
      dsimp only
      rw [hb, show (0 : Int) = ((0 : Nat) : Int) from rfl, show (a :: t1).drop 1 = t1 from rfl]
      have h6 := iBank_l6 hN N a.toNat 0 t1 false [] (by omega) (by omega) (by omega) (by omega) rfl
      simp only [Nat.sub_zero, List.nil_append] at h6
      by_cases h1 : t1.length < 37 * a.toNat
      · rw [if_pos h1]
        obtain ⟨b', acc', h2, _⟩ := h6.2 (.inr h1)
        rw [h2, Option.bind_some]
        dsimp only
        rw [e1, Option.bind_some]
        have hf := tkR_fail (b', true) 1 rfl
        have hl := numB_lt (tkR (b', true) 1).2
        have hl2 : (tkR (b', true) 1).2.length ≤ 1 := by unfold tkR; split <;> simp; omega
        have hl3 := Nat.pow_le_pow_right (show 0 < 256 by omega) hl2
        obtain ⟨b2, rs2, acc2, h3⟩ := (iBank_l10 hN N (numB (tkR (b', true) 1).2) 0 _ _ acc' [] (by omega) (by omega) (by omega) (by omega) rfl).2 (.inl hf)
        dsimp only
        rw [h3]; rfl
      · rw [if_neg h1, h6.1 (by omega), Option.bind_some]
        dsimp only
        rw [e1, Option.bind_some]
        cases hd : t1.drop (37 * a.toNat) with
        | nil =>
          dsimp only
          obtain ⟨b2, rs2, acc2, h3⟩ := (iBank_l10 hN N 0 0 [] true (regsOf a.toNat t1) [] (by omega) (by omega) (by omega) (by omega) rfl).2 (.inl rfl)
          rw [tkR_short [] false 1 (by simp)]
          have hb2 : (numB ([] : List UInt8) : Int) = ((0 : Nat) : Int) := rfl
          dsimp only
          rw [hb2, h3]; rfl
        | cons c t2 =>
          have hc := c.toNat_lt
          rw [tkR_ok (c :: t2) false 1 (by simp)]
          have hb2 : (numB ((c :: t2).take 1) : Int) = ((c.toNat : Nat) : Int) := by simp [numB]
          dsimp only
          rw [hb2, show (c :: t2).drop 1 = t2 from rfl]
          have h10 := iBank_l10 hN N c.toNat 0 t2 false (regsOf a.toNat t1) [] (by omega) (by omega) (by omega) (by omega) rfl
          simp only [Nat.sub_zero, List.nil_append] at h10
          by_cases h2 : t2.length < 9 * c.toNat
          · obtain ⟨b2, rs2, acc2, h3⟩ := h10.2 (.inr h2)
            rw [h3, if_neg (by omega)]; rfl
          · rw [h10.1 (by omega), Option.bind_some]
            dsimp only
            by_cases h3 : t2.length = 9 * c.toNat
            · rw [List.drop_of_length_le (by omega), BankOK_eq hN _ (by simp [regsOf_length]; omega) (by simp [sesOf_length]; omega)]
              cases okBank (regsOf a.toNat t1, sesOf c.toNat t2) <;> simp [h3]
            · rw [if_neg (by omega)]
              have : (t2.drop (9 * c.toNat) == ([] : List UInt8)) = false := by
                rw [beq_eq_false_iff_ne]
                intro e
                have := congrArg List.length e
                simp at this; omega
              rw [this]; rfl
theorem sReadBank_eq {N : Nat} (hN : 18446744073709551616 ≤ N) (t : List UInt8) (ht0 : t.length ≤ 140737488355328) : g_spec_ReadBank N t = some (rdBank t) := by
  unfold g_spec_ReadBank rdBank
  by_cases h0 : 65536 < t.length
  · simp (disch := omega) only [dec_t, dec_f, cond_true, cond_false, get_t, Option.bind_some, wi_u8, h0, if_true]
  · simp only [h0, if_false]
    rw [dec_f (by omega), cond_false]
    cases t with
    | nil => simp
    | cons a t1 =>
      have ha := a.toNat_lt
      simp only [List.length_cons] at h0
      by_cases hs : t1 = []
      · subst hs
        simp only [List.length_cons, List.length_nil]
        by_cases h1 : 0 < 37 * a.toNat
        · rw [if_pos h1]; rfl
        · rw [if_neg h1]; simp
      · have hs' : 0 < t1.length := List.length_pos_iff.2 hs
        have e9 := sRead_l9 hN (a :: t1) (by simp; omega) N a.toNat 1 [] [] (by omega) (by simp) (by omega) (by simp; omega)
        simp only [Int.natCast_one, List.nil_append, List.length_cons, Nat.add_sub_cancel, show (a :: t1).drop 1 = t1 from rfl] at e9
        rw [dec_f (by simp; omega), cond_false, show (a :: t1)[0]? = some a from rfl, Option.bind_some, wi_u8, e9, Option.bind_some]
        dsimp only
        by_cases h1 : t1.length < 37 * a.toNat
        · -- fewer registers than are told
          rw [if_pos h1]
          have hj : min a.toNat (t1.length / 37) = t1.length / 37 := by omega
          rw [hj]
          by_cases h2 : t1.length ≤ 37 * (t1.length / 37)
          · rw [dec_t (by simp; omega), cond_true]
          · rw [dec_f (by simp; omega), cond_false, dec_t (by omega), gd_true, Int.toNat_natCast, get_t (show 1 + 37 * (t1.length / 37) < (a :: t1).length by simp; omega), Option.bind_some, wi_u8, wi_of (by omega) (by omega)]
            have hc := ((a :: t1)[1 + 37 * (t1.length / 37)]'(by simp; omega)).toNat_lt
            have e18 := sRead_l18 hN (a :: t1) (by simp; omega) N ((a :: t1)[1 + 37 * (t1.length / 37)]'(by simp; omega)).toNat (1 + 37 * (t1.length / 37) + 1) (regsOf (t1.length / 37) t1) [] (by omega) (by simp; omega) (by omega) (by simp; omega)
            rw [nc1, e18, Option.bind_some, List.nil_append]
            try dsimp only
            have hsl : min ((a :: t1)[1 + 37 * (t1.length / 37)]'(by simp; omega)).toNat (((a :: t1).length - (1 + 37 * (t1.length / 37) + 1)) / 9) ≤ 255 := by omega
            generalize min ((a :: t1)[1 + 37 * (t1.length / 37)]'(by simp; omega)).toNat (((a :: t1).length - (1 + 37 * (t1.length / 37) + 1)) / 9) = q at hsl ⊢
            have hr : ((regsOf (t1.length / 37) t1).flatMap regB).length ≤ 65536 := by rw [flatMap_regsOf _ _ (by omega)]; simp; omega
            rw [sBankOK_eq hN _ (by simp [regsOf_length]; omega) (by simp [sesOf_length]; omega), Option.bind_some]
            cases okBank _
            · rfl
            · simp only [Bool.not_true, cond_false]
              rw [l08Bytes_eq hN _ (by simp [regsOf_length]; omega) (by simp [sesOf_length]; omega) (by simp only; omega), Option.bind_some]
              have : (bankB (regsOf (t1.length / 37) t1, sesOf q ((a :: t1).drop (1 + 37 * (t1.length / 37) + 1))) == a :: t1) = false := by
                rw [beq_eq_false_iff_ne]
                intro e
                simp only [bankB, regsOf_length, List.cons.injEq] at e
                have := congrArg (fun x : UInt8 => (x.toNat : Int)) e.1
                simp only [toNat_wb] at this
                omega
              rw [this]; rfl
        · rw [if_neg h1]
          have hj : min a.toNat (t1.length / 37) = a.toNat := by omega
          rw [hj]
          cases hd : t1.drop (37 * a.toNat) with
          | nil =>
            have := congrArg List.length hd
            simp at this
            rw [dec_t (by simp; omega), cond_true]
          | cons c t2 =>
            have hl := congrArg List.length hd
            simp only [List.length_drop, List.length_cons] at hl
            have hc := c.toNat_lt
            have hg : (a :: t1)[1 + 37 * a.toNat]? = some c := by
              rw [Nat.add_comm, List.getElem?_cons_succ, show t1[37 * a.toNat]? = (t1.drop (37 * a.toNat))[0]? by simp, hd]; rfl
            have hd2 : (a :: t1).drop (1 + 37 * a.toNat + 1) = t2 := by
              rw [show 1 + 37 * a.toNat + 1 = (37 * a.toNat + 1) + 1 by omega, List.drop_succ_cons, ← List.drop_drop, hd]; rfl
            rw [dec_f (by simp; omega), cond_false, dec_t (by omega), gd_true, Int.toNat_natCast, hg, Option.bind_some, wi_u8, wi_of (by omega) (by omega)]
            have e18 := sRead_l18 hN (a :: t1) (by simp; omega) N c.toNat (1 + 37 * a.toNat + 1) (regsOf a.toNat t1) [] (by omega) (by simp; omega) (by omega) (by simp; omega)
            rw [nc1, e18, Option.bind_some, List.nil_append, hd2, show (a :: t1).length - (1 + 37 * a.toNat + 1) = t2.length by simp; omega]
            dsimp only
            have hr : ((regsOf a.toNat t1).flatMap regB).length ≤ 65536 := by rw [flatMap_regsOf _ _ (by omega)]; simp; omega
            by_cases h2 : t2.length < 9 * c.toNat
            · rw [if_neg (by omega)]
              have hj2 : min c.toNat (t2.length / 9) = t2.length / 9 := by omega
              rw [hj2, sBankOK_eq hN _ (by simp [regsOf_length]; omega) (by simp [sesOf_length]; omega), Option.bind_some]
              cases okBank _
              · rfl
              · simp only [Bool.not_true, cond_false]
                rw [l08Bytes_eq hN _ (by simp [regsOf_length]; omega) (by simp [sesOf_length]; omega) (by simp only; omega), Option.bind_some]
                have : (bankB (regsOf a.toNat t1, sesOf (t2.length / 9) t2) == a :: t1) = false := by
                  rw [beq_eq_false_iff_ne]
                  intro e
                  simp only [bankB, regsOf_length, sesOf_length, List.cons.injEq, flatMap_regsOf _ _ (show 37 * a.toNat ≤ t1.length by omega)] at e
                  have e2 := e.2
                  rw [← List.take_append_drop (37 * a.toNat) t1, hd, List.take_append_of_le_length (by simp; omega), List.take_take, Nat.min_self] at e2
                  have e3 := List.append_cancel_left e2
                  simp only [List.cons.injEq] at e3
                  have := congrArg (fun x : UInt8 => (x.toNat : Int)) e3.1
                  simp only [toNat_wb] at this
                  omega
                rw [this]; rfl
            · have hj2 : min c.toNat (t2.length / 9) = c.toNat := by omega
              rw [hj2, sBankOK_eq hN _ (by simp [regsOf_length]; omega) (by simp [sesOf_length]; omega), Option.bind_some]
              cases hok : okBank (regsOf a.toNat t1, sesOf c.toNat t2)
              · simp
              · simp only [Bool.not_true, cond_false]
                rw [l08Bytes_eq hN _ (by simp [regsOf_length]; omega) (by simp [sesOf_length]; omega) (by simp only; omega), Option.bind_some]
                have eb : bankB (regsOf a.toNat t1, sesOf c.toNat t2) = a :: (t1.take (37 * a.toNat) ++ c :: t2.take (9 * c.toNat)) := by
                  simp only [bankB, regsOf_length, sesOf_length, wb_u8, flatMap_regsOf _ _ (show 37 * a.toNat ≤ t1.length by omega), flatMap_sesOf _ _ (show 9 * c.toNat ≤ t2.length by omega)]
                have et : a :: t1 = a :: (t1.take (37 * a.toNat) ++ c :: t2) := by rw [← hd, List.take_append_drop]
                by_cases h3 : t2.length = 9 * c.toNat
                · rw [if_pos (by simp [h3]), eb, et, List.take_of_length_le (l := t2) (i := 9 * c.toNat) (by omega)]
                  simp
                · rw [if_neg (by omega)]
                  have : (bankB (regsOf a.toNat t1, sesOf c.toNat t2) == a :: t1) = false := by
                    rw [beq_eq_false_iff_ne, eb, et]
                    intro e
                    have := congrArg List.length e
                    simp at this; omega
                  rw [this]; rfl
end Go.Vm
/- Banks: runs of requests keep a bank right (plain words). -/
set_option linter.unusedVariables false
set_option maxRecDepth 100000
namespace Go.Vm
theorem risA_iff {α : Type} (f : α → Int) : ∀ (l : List α), risA f l = true ↔ l.Pairwise fun a b => f a < f b
  | [] => by simp [risA]
  | [a] => by simp [risA]
  | a :: b :: l => by
    rw [risA, Bool.and_eq_true, decide_eq_true_eq, risA_iff f (b :: l), List.pairwise_cons (a := a)]
    constructor
    · rintro ⟨h1, h2⟩
      refine ⟨fun c hc => ?_, h2⟩
      rcases List.mem_cons.1 hc with rfl | hc
      · exact h1
      · have := (List.pairwise_cons.1 h2).1 c hc
        omega
    · rintro ⟨h1, h2⟩
      exact ⟨h1 b (by simp), h2⟩
theorem risA_set {α : Type} (f : α → Int) {l : List α} {k : Nat} {x : α} (h : risA f l = true) (hk : k < l.length) (hx : f x = f l[k]) : risA f (l.set k x) = true := by
  rw [risA_iff] at h ⊢
  have e : (l.set k x).map f = l.map f := by
    rw [List.map_set, hx]
    apply List.ext_getElem
    · simp
    · intro i h1 h2
      rw [List.getElem_set]
      split
      · rename_i e; subst e; simp
      · rfl
  have h' : (l.map f).Pairwise fun a b => a < b := List.pairwise_map.2 h
  rw [← e] at h'
  exact List.pairwise_map.1 h'
theorem risA_insert {α : Type} (f : α → Int) {l : List α} {k : Nat} {x : α} (h : risA f l = true) (h1 : ∀ y ∈ l.take k, f y < f x) (h2 : ∀ y ∈ l.drop k, f x < f y) : risA f (l.take k ++ x :: l.drop k) = true := by
  rw [risA_iff] at h ⊢
  rw [← List.take_append_drop k l, List.pairwise_append] at h
  rw [List.pairwise_append, List.pairwise_cons]
  refine ⟨h.1, ⟨h2, h.2.1⟩, fun a ha b hb => ?_⟩
  rcases List.mem_cons.1 hb with rfl | hb
  · exact h1 a ha
  · exact h.2.2 a ha b hb
abbrev ReqT := Int × Int × Int × Int × List UInt8
def okReq (r : ReqT) : Bool := inB r.1 0 65535 && (inB r.2.1 1 65535 && (inB r.2.2.1 0 255 && (inB r.2.2.2.1 1 1000000 && decide (r.2.2.2.2.length = 32))))
def posV {α : Type} (f : α → Int) (v : Int) : List α → Nat
  | [] => 0
  | r :: l => if f r < v then posV f v l + 1 else 0
theorem posV_le {α : Type} (f : α → Int) (v : Int) : ∀ l : List α, posV f v l ≤ l.length
  | [] => by simp [posV]
  | r :: l => by rw [posV]; split <;> simp [posV_le f v l]
theorem posV_take {α : Type} (f : α → Int) (v : Int) : ∀ l : List α, ∀ y ∈ l.take (posV f v l), f y < v
  | [], y, h => by simp at h
  | r :: l, y, h => by
    rw [posV] at h
    split at h
    · rename_i hr
      rw [List.take_succ_cons] at h
      rcases List.mem_cons.1 h with rfl | h
      · exact hr
      · exact posV_take f v l y h
    · simp at h
theorem posV_drop {α : Type} (f : α → Int) (v : Int) : ∀ l : List α, risA f l = true → ∀ y ∈ l.drop (posV f v l), v ≤ f y
  | [], _, y, h => by simp at h
  | r :: l, hr, y, h => by
    rw [risA_iff, List.pairwise_cons] at hr
    rw [posV] at h
    split at h
    · exact posV_drop f v l ((risA_iff f l).2 hr.2) y (by simpa using h)
    · rename_i hlt
      rw [List.drop_zero] at h
      rcases List.mem_cons.1 h with rfl | h
      · omega
      · have := hr.1 y h; omega
end Go.Vm
/- Banks: the reference's runs keep a bank right. -/
set_option linter.unusedVariables false
set_option maxRecDepth 100000
namespace Go.Vm
theorem bOwn (N : Nat) (b : BankT) (h1 : b.1.length ≤ 1000) (h2 : b.2.length ≤ 1000) : g_spec_l08Own N b = some b := by
  unfold g_spec_l08Own
  rw [room_t (by omega), room_t (by omega)]
  simp only [gd_true, List.nil_append]
theorem find_l2 (N : Nat) (v : Int) (l : List RegT) (m3 : List SesT) (hl : l.length ≤ 1000) : ∀ (n k : Nat), l.length ≤ k + n - 1 → 0 < n → k ≤ l.length →
    (∃ (j : Nat) (h : j < l.length), g_spec_l08Find.l2 N n v (k : Int) l m3 = some (.inl (j : Int)) ∧ l[j].1 = v) ∨ (g_spec_l08Find.l2 N n v (k : Int) l m3 = some (.inr ()) ∧ ∀ r ∈ l.drop k, r.1 ≠ v)
  | 0, _, _, h, _ => by omega
  | n + 1, k, hn, _, hk => by
    unfold g_spec_l08Find.l2
    by_cases h : k < l.length
    · by_cases hv : l[k].1 = v
      · left
        refine ⟨k, h, ?_, hv⟩
        simp (disch := omega) only [dec_t, cond_true, gd_true, Int.toNat_natCast, get_t, Option.bind_some, bind_id, nc1, wi_of, beq_ti]
      · rcases find_l2 N v l m3 hl n (k + 1) (by omega) (by omega) (by omega) with ⟨j, hj, e, hjv⟩ | ⟨e, hne⟩
        · left
          refine ⟨j, hj, ?_, hjv⟩
          simp (disch := omega) only [dec_t, cond_true, cond_false, gd_true, Int.toNat_natCast, get_t, Option.bind_some, bind_id, nc1, wi_of, beq_fi, e]
        · right
          refine ⟨?_, fun r hr => ?_⟩
          · simp (disch := omega) only [dec_t, cond_true, cond_false, gd_true, Int.toNat_natCast, get_t, Option.bind_some, bind_id, nc1, wi_of, beq_fi, e]
          · rw [drop_get h] at hr
            rcases List.mem_cons.1 hr with rfl | hr
            · exact hv
            · exact hne r hr
    · right
      refine ⟨?_, fun r hr => ?_⟩
      · simp (disch := omega) only [dec_t, dec_f, cond_false, gd_true, Int.toNat_natCast, bind_id, nc1, wi_of]
      · rw [List.drop_of_length_le (by omega)] at hr; simp at hr
theorem find_ok {N : Nat} (hN : 18446744073709551616 ≤ N) (b : BankT) (v : Int) (hl : b.1.length ≤ 1000) :
    (∃ (j : Nat) (h : j < b.1.length), g_spec_l08Find N b v = some (j : Int) ∧ b.1[j].1 = v) ∨ (g_spec_l08Find N b v = some (-1) ∧ ∀ r ∈ b.1, r.1 ≠ v) := by
  unfold g_spec_l08Find
  have := find_l2 N v b.1 b.2 hl N 0 (by omega) (by omega) (by omega)
  rw [Int.natCast_zero, List.drop_zero] at this
  rcases this with ⟨j, hj, e, hv⟩ | ⟨e, hne⟩
  · left; exact ⟨j, hj, by rw [e]; rfl, hv⟩
  · right; exact ⟨by rw [e]; rfl, hne⟩
theorem pos_l19 (N : Nat) (l : List RegT) (m2 : List SesT) (m3 m4 m5 m6 : Int) (m7 : List UInt8) (m8 m9 : Int) (m10 : List UInt8) (m11 : List RegT) (m12 : List SesT) (hl : l.length ≤ 1000) : ∀ (n k : Nat), l.length ≤ k + n - 1 → 0 < n → k ≤ l.length →
    g_spec_l08Step.l19 N n (k : Int) l m2 m3 m4 m5 m6 m7 m8 m9 m10 m11 m12 = some (((k + posV (·.1) m5 (l.drop k) : Nat) : Int), l, m2, m3, m4, m5, m6, m7, m8, m9, m10, m11, m12)
  | 0, _, _, h, _ => by omega
  | n + 1, k, hn, _, hk => by
    unfold g_spec_l08Step.l19
    by_cases h : k < l.length
    · rw [drop_get h, posV]
      by_cases hv : l[k].1 < m5
      · simp (disch := omega) only [dec_t, cond_true, gd_true, Int.toNat_natCast, get_t, Option.bind_some, bind_id, nc1, wi_of, pos_l19 N l m2 m3 m4 m5 m6 m7 m8 m9 m10 m11 m12 hl n (k + 1), if_pos hv]
        rw [show k + 1 + posV (·.1) m5 (l.drop (k + 1)) = k + (posV (·.1) m5 (l.drop (k + 1)) + 1) by omega]
      · simp (disch := omega) only [dec_t, dec_f, cond_true, cond_false, gd_true, Int.toNat_natCast, get_t, Option.bind_some, bind_id, nc1, wi_of, if_neg hv, Nat.add_zero]
    · simp (disch := omega) only [dec_t, dec_f, cond_false, gd_true, Int.toNat_natCast, bind_id, nc1, wi_of, List.drop_of_length_le, posV, Nat.add_zero]
theorem inB_iff {x a b : Int} : inB x a b = true ↔ a ≤ x ∧ x ≤ b := by simp [inB]
theorem okBank_iff {b : BankT} : okBank b = true ↔ b.1.length ≤ 6 ∧ (∀ r ∈ b.1, okReg r = true) ∧ risA (·.1) b.1 = true ∧ b.2.length ≤ 6 ∧ (∀ s ∈ b.2, okSes s = true) ∧ risA (·.1) b.2 = true := by
  unfold okBank
  simp only [Bool.and_eq_true, decide_eq_true_eq, List.all_eq_true]
  constructor
  · rintro ⟨⟨⟨a, b⟩, c⟩, ⟨d, e⟩, f⟩; exact ⟨a, b, c, d, e, f⟩
  · rintro ⟨a, b, c, d, e, f⟩; exact ⟨⟨⟨a, b⟩, c⟩, ⟨d, e⟩, f⟩
theorem okReg_iff {r : RegT} : okReg r = true ↔ (0 ≤ r.1 ∧ r.1 ≤ 255) ∧ (1 ≤ r.2.1 ∧ r.2.1 ≤ 1000000) ∧ r.2.2.length = 32 := by
  unfold okReg
  simp only [Bool.and_eq_true, inB_iff, decide_eq_true_eq]
theorem okSes_iff {r : SesT} : okSes r = true ↔ (0 ≤ r.1 ∧ r.1 ≤ 65535) ∧ (1 ≤ r.2.1 ∧ r.2.1 ≤ 65535) ∧ (0 ≤ r.2.2.1 ∧ r.2.2.1 ≤ 19) ∧ (0 ≤ r.2.2.2 ∧ r.2.2.2 ≤ 1000000) := by
  unfold okSes
  simp only [Bool.and_eq_true, inB_iff]
theorem okReq_iff {r : ReqT} : okReq r = true ↔ (0 ≤ r.1 ∧ r.1 ≤ 65535) ∧ (1 ≤ r.2.1 ∧ r.2.1 ≤ 65535) ∧ (0 ≤ r.2.2.1 ∧ r.2.2.1 ≤ 255) ∧ (1 ≤ r.2.2.2.1 ∧ r.2.2.2.1 ≤ 1000000) ∧ r.2.2.2.2.length = 32 := by
  unfold okReq
  simp only [Bool.and_eq_true, inB_iff, decide_eq_true_eq]
theorem mem_set {α : Type} {l : List α} {k : Nat} {x : α} {P : α → Prop} (h : ∀ y ∈ l, P y) (hx : P x) : ∀ y ∈ l.set k x, P y := fun y hy => by
  rcases List.mem_or_eq_of_mem_set hy with q | q
  · exact h y q
  · rw [q]; exact hx
theorem mem_ins {α : Type} {l : List α} {k : Nat} {x : α} {P : α → Prop} (h : ∀ y ∈ l, P y) (hx : P x) : ∀ y ∈ l.take k ++ x :: l.drop k, P y := fun y hy => by
  rcases List.mem_append.1 hy with q | q
  · exact h y (List.mem_of_mem_take q)
  · rcases List.mem_cons.1 q with rfl | q
    · exact hx
    · exact h y (List.mem_of_mem_drop q)
theorem bStep_ok {N : Nat} (hN : 18446744073709551616 ≤ N) (b : BankT) (r : ReqT) (hb : okBank b = true) (hr : okReq r = true) :
    ∃ rs code mark, g_spec_l08Step N b r = some ((rs, b.2), code, mark) ∧ okBank (rs, b.2) = true ∧ (0 ≤ code ∧ code ≤ 19) ∧ (0 ≤ mark ∧ mark ≤ 1000000) := by
  have hb' := hb
  rw [okBank_iff] at hb
  obtain ⟨b1, b2, b3, b4, b5, b6⟩ := hb
  rw [okReq_iff] at hr
  obtain ⟨r1, r2, r3, r4, r5⟩ := hr
  have hreg : okReg r.2.2 = true := okReg_iff.2 ⟨r3, r4, r5⟩
  have hO := bOwn N b (by omega) (by omega)
  obtain ⟨bx, by_⟩ := b
  dsimp only at b1 b2 b3 b4 b5 b6 hO
  unfold g_spec_l08Step
  rcases find_ok hN (bx, by_) r.2.2.1 (by dsimp only; omega) with ⟨j, hj, e, hv⟩ | ⟨e, hne⟩
  · dsimp only at hj hv
    obtain ⟨q1, q2, q3⟩ := okReg_iff.1 (b2 _ (List.getElem_mem hj))
    simp only [e, hO, Option.bind_some]
    by_cases c1 : bx[j].2.1 = 1000000
    · exact ⟨bx, 19, bx[j].2.1, by simp (disch := omega) only [dec_t, dec_f, cond_true, cond_false, gd_true, Bool.and_true, Bool.true_and, Int.toNat_natCast, get_t, Option.bind_some, wi_of, beq_ti, List.length_append, List.length_cons, List.length_nil, List.length_take, List.length_drop], hb', by omega, by omega⟩
    · by_cases c2 : r.2.2.2.1 ≤ bx[j].2.1
      · exact ⟨bx, 11, bx[j].2.1, by simp (disch := omega) only [dec_t, dec_f, cond_true, cond_false, gd_true, Bool.and_true, Bool.true_and, Int.toNat_natCast, get_t, Option.bind_some, wi_of, beq_fi, List.length_append, List.length_cons, List.length_nil, List.length_take, List.length_drop], hb', by omega, by omega⟩
      · by_cases c3 : r.2.2.2.1 > bx[j].2.1 + 1
        · exact ⟨bx, 15, bx[j].2.1, by simp (disch := omega) only [dec_t, dec_f, cond_true, cond_false, gd_true, Bool.and_true, Bool.true_and, Int.toNat_natCast, get_t, Option.bind_some, wi_of, beq_fi, List.length_append, List.length_cons, List.length_nil, List.length_take, List.length_drop], hb', by omega, by omega⟩
        · refine ⟨bx.set j r.2.2, 0, r.2.2.2.1, by simp (disch := omega) only [dec_t, dec_f, cond_true, cond_false, gd_true, Bool.and_true, Bool.true_and, Int.toNat_natCast, get_t, Option.bind_some, wi_of, beq_fi, List.length_append, List.length_cons, List.length_nil, List.length_take, List.length_drop], ?_, by omega, by omega⟩
          rw [okBank_iff]
          exact ⟨by simpa using b1, mem_set b2 hreg, risA_set _ b3 hj hv.symm, b4, b5, b6⟩
  · dsimp only at hne
    simp only [e, hO, Option.bind_some]
    by_cases c3 : r.2.2.2.1 > 1
    · exact ⟨bx, 15, 0, by simp (disch := omega) only [dec_t, dec_f, cond_true, cond_false, Bool.and_true, Bool.true_and, List.length_append, List.length_cons, List.length_nil, List.length_take, List.length_drop], hb', by omega, by omega⟩
    · by_cases c4 : bx.length = 6
      · exact ⟨bx, 7, 0, by simp (disch := omega) only [dec_t, dec_f, cond_true, cond_false, gd_true, Bool.and_true, Bool.true_and, beq_ti, List.length_append, List.length_cons, List.length_nil, List.length_take, List.length_drop], hb', by omega, by omega⟩
      · have hp := posV_le (·.1) r.2.2.1 bx
        have el := pos_l19 N bx by_ r.1 r.2.1 r.2.2.1 r.2.2.2.1 r.2.2.2.2 r.2.2.1 r.2.2.2.1 r.2.2.2.2 bx by_ (by omega) N 0 (by omega) (by omega) (by omega)
        rw [Int.natCast_zero, List.drop_zero, Nat.zero_add] at el
        refine ⟨bx.take (posV (·.1) r.2.2.1 bx) ++ r.2.2 :: bx.drop (posV (·.1) r.2.2.1 bx), 0, r.2.2.2.1, ?_, ?_, by omega, by omega⟩
        · simp (disch := omega) only [dec_t, dec_f, cond_true, cond_false, gd_true, Bool.and_true, Bool.true_and, Int.toNat_natCast, Option.bind_some, room_t, beq_fi, List.length_append, List.length_cons, List.length_nil, List.length_take, List.length_drop, el, List.nil_append, List.drop_zero, List.take_of_length_le, List.append_assoc, List.singleton_append]
        · rw [okBank_iff]
          refine ⟨by simp; omega, mem_ins b2 hreg, risA_insert _ b3 (posV_take _ _ _) (fun y hy => ?_), b4, b5, b6⟩
          have h1 := posV_drop (·.1) r.2.2.1 bx b3 y hy
          have h2 := hne y (List.mem_of_mem_drop hy)
          try dsimp only at h1 ⊢
          omega
theorem pos_l2 (N : Nat) (m1 : List RegT) (l : List SesT) (m3 m4 m5 m6 : Int) (m7 : List UInt8) (hl : l.length ≤ 1000) : ∀ (n k : Nat), l.length ≤ k + n - 1 → 0 < n → k ≤ l.length →
    g_spec_l08Advance.l2 N n (k : Int) m1 l m3 m4 m5 m6 m7 = some (((k + posV (·.1) m3 (l.drop k) : Nat) : Int), m1, l, m3, m4, m5, m6, m7)
  | 0, _, _, h, _ => by omega
  | n + 1, k, hn, _, hk => by
    unfold g_spec_l08Advance.l2
    by_cases h : k < l.length
    · rw [drop_get h, posV]
      by_cases hv : l[k].1 < m3
      · simp (disch := omega) only [dec_t, cond_true, gd_true, Int.toNat_natCast, get_t, Option.bind_some, bind_id, nc1, wi_of, pos_l2 N m1 l m3 m4 m5 m6 m7 hl n (k + 1), if_pos hv]
        rw [show k + 1 + posV (·.1) m3 (l.drop (k + 1)) = k + (posV (·.1) m3 (l.drop (k + 1)) + 1) by omega]
      · simp (disch := omega) only [dec_t, dec_f, cond_true, cond_false, gd_true, Int.toNat_natCast, get_t, Option.bind_some, bind_id, nc1, wi_of, if_neg hv, Nat.add_zero]
    · simp (disch := omega) only [dec_t, dec_f, cond_false, gd_true, Int.toNat_natCast, bind_id, nc1, wi_of, List.drop_of_length_le, posV, Nat.add_zero]
theorem bAdv_ok {N : Nat} (hN : 18446744073709551616 ≤ N) (b : BankT) (r : ReqT) (hb : okBank b = true) (hr : okReq r = true) :
    ∃ b' code mark, g_spec_l08Advance N b r = some (b', code, mark) ∧ okBank b' = true := by
  obtain ⟨rs, code, mark, eS, hS, hc, hm⟩ := bStep_ok hN b r hb hr
  have hb' := hb
  rw [okBank_iff] at hb
  obtain ⟨b1, b2, b3, b4, b5, b6⟩ := hb
  rw [okReq_iff] at hr
  obtain ⟨r1, r2, r3, r4, r5⟩ := hr
  rw [okBank_iff] at hS
  obtain ⟨s1, s2, s3, _⟩ := hS
  have hses : okSes (r.1, r.2.1, code, mark) = true := okSes_iff.2 ⟨r1, r2, hc, hm⟩
  obtain ⟨bx, l⟩ := b
  dsimp only at b1 b2 b3 b4 b5 b6 s1 s2 s3 eS
  have hO := bOwn N (rs, l) (by dsimp only; omega) (by dsimp only; omega)
  have hp := posV_le (·.1) r.1 l
  have el := pos_l2 N bx l r.1 r.2.1 r.2.2.1 r.2.2.2.1 r.2.2.2.2 (by omega) N 0 (by omega) (by omega) (by omega)
  rw [Int.natCast_zero, List.drop_zero, Nat.zero_add] at el
  have hpt := posV_take (·.1) r.1 l
  have hpd := posV_drop (·.1) r.1 l b6
  generalize hpp : posV (·.1) r.1 l = p at el hp hpt hpd
  have hins : (∀ y ∈ l.drop p, y.1 ≠ r.1) → l.length ≠ 6 → okBank (rs, l.take p ++ (r.1, r.2.1, code, mark) :: l.drop p) = true := fun hne h6 => by
    rw [okBank_iff]
    refine ⟨s1, s2, s3, by simp; omega, mem_ins b5 hses, risA_insert _ b6 hpt (fun y hy => ?_)⟩
    have h1 := hpd y hy
    have h2 := hne y hy
    dsimp only at h1 ⊢
    omega
  unfold g_spec_l08Advance
  simp only [el, Option.bind_some, eS, hO]
  by_cases hl : p < l.length
  · by_cases hid : l[p].1 = r.1
    · obtain ⟨q1, q2, q3, q4⟩ := okSes_iff.1 (b5 _ (List.getElem_mem hl))
      by_cases hs : l[p].2.1 = r.2.1
      · exact ⟨(bx, l), l[p].2.2.1, l[p].2.2.2, by simp (disch := omega) only [dec_t, dec_f, cond_true, cond_false, gd_true, Bool.not_true, Bool.and_self, Int.toNat_natCast, get_t, Option.bind_some, room_t, beq_ti, List.length_append, List.length_cons, List.length_nil, List.length_take, List.length_drop], hb'⟩
      · by_cases hg : l[p].2.1 > r.2.1
        · exact ⟨(bx, l), 14, 0, by simp (disch := omega) only [dec_t, cond_true, cond_false, gd_true, Bool.not_true, Bool.and_self, Int.toNat_natCast, get_t, Option.bind_some, room_t, beq_ti, beq_fi, List.length_append, List.length_cons, List.length_nil, List.length_take, List.length_drop], hb'⟩
        · refine ⟨(rs, l.set p (r.1, r.2.1, code, mark)), code, mark, by simp (disch := omega) only [dec_t, dec_f, cond_true, cond_false, gd_true, Bool.not_true, Bool.and_self, Int.toNat_natCast, get_t, Option.bind_some, room_t, beq_ti, beq_fi, List.length_append, List.length_cons, List.length_nil, List.length_take, List.length_drop], ?_⟩
          rw [okBank_iff]
          exact ⟨s1, s2, s3, by simpa using b4, mem_set b5 hses, risA_set _ b6 hl hid.symm⟩
    · by_cases h6 : l.length = 6
      · exact ⟨(bx, l), 6, 0, by simp (disch := omega) only [dec_t, cond_true, cond_false, gd_true, Bool.not_false, Bool.and_self, Int.toNat_natCast, get_t, Option.bind_some, room_t, beq_ti, beq_fi, List.length_append, List.length_cons, List.length_nil, List.length_take, List.length_drop], hb'⟩
      · refine ⟨(rs, l.take p ++ (r.1, r.2.1, code, mark) :: l.drop p), code, mark, ?_, hins (fun y hy => ?_) h6⟩
        · simp (disch := omega) only [dec_t, cond_true, cond_false, gd_true, Bool.not_false, Bool.and_self, Int.toNat_natCast, get_t, Option.bind_some, room_t, beq_fi, List.length_append, List.length_cons, List.length_nil, List.length_take, List.length_drop, List.nil_append, List.drop_zero, List.take_of_length_le, List.append_assoc, List.singleton_append]
        · rw [risA_iff, ← List.take_append_drop p l, List.pairwise_append] at b6
          have h7 := b6.2.1
          have h0 := hpd l[p] (by rw [drop_get hl]; exact List.mem_cons_self ..)
          rw [drop_get hl] at h7 hy
          rcases List.mem_cons.1 hy with rfl | hy
          · exact hid
          · have := (List.pairwise_cons.1 h7).1 y hy
            try dsimp only at h0 this
            omega
  · by_cases h6 : l.length = 6
    · exact ⟨(bx, l), 6, 0, by simp (disch := omega) only [dec_t, dec_f, cond_true, cond_false, gd_true, Bool.and_self, Int.toNat_natCast, room_t, beq_ti, List.length_append, List.length_cons, List.length_nil, List.length_take, List.length_drop], hb'⟩
    · refine ⟨(rs, l.take p ++ (r.1, r.2.1, code, mark) :: l.drop p), code, mark, ?_, hins (fun y hy => ?_) h6⟩
      · simp (disch := omega) only [dec_t, dec_f, cond_false, gd_true, Bool.and_self, Int.toNat_natCast, room_t, beq_fi, List.length_append, List.length_cons, List.length_nil, List.length_drop, List.nil_append, List.drop_zero, List.take_of_length_le, List.append_assoc, List.singleton_append]
      · rw [List.drop_of_length_le (by omega)] at hy; simp at hy
theorem bReq (N : Nat) (r : ReqT) : g_spec_l08Request N r = some (okReq r) := by
  unfold g_spec_l08Request okReq
  simp only [l01In_eq, Option.bind_some, len32, inB]
  cases (decide (0 ≤ r.1) && decide (r.1 ≤ 65535)) <;> cases (decide (1 ≤ r.2.1) && decide (r.2.1 ≤ 65535)) <;> cases (decide (0 ≤ r.2.2.1) && decide (r.2.2.1 ≤ 255)) <;> cases (decide (1 ≤ r.2.2.2.1) && decide (r.2.2.2.1 ≤ 1000000)) <;> rfl
theorem bRun_l8 {N : Nat} (hN : 18446744073709551616 ≤ N) (c : List ReqT) (hc : c.length ≤ 120) (hr : ∀ r ∈ c, okReq r = true) : ∀ (n k : Nat) (b : BankT) (acc : List Int), c.length ≤ k + n - 1 → 0 < n → k ≤ c.length → acc.length = k → okBank b = true →
    ∃ b' acc', g_spec_BankRun.l8 N n c (k : Int) b.1 b.2 acc = some (.inr (b'.1, b'.2, acc')) ∧ okBank b' = true
  | 0, _, _, _, _, h, _, _, _ => by omega
  | n + 1, k, b, acc, hn, _, hk, ha, hb => by
    unfold g_spec_BankRun.l8
    by_cases h : k < c.length
    · have hrk := hr _ (List.getElem_mem h)
      obtain ⟨b1, code, mark, e1, hb1⟩ := bAdv_ok hN b c[k] hb hrk
      obtain ⟨b', acc', e2, hb'⟩ := bRun_l8 hN c hc hr n (k + 1) b1 (acc ++ [code]) (by omega) (by omega) (by omega) (by simp [ha]) hb1
      refine ⟨b', acc', ?_, hb'⟩
      rw [show (b.1, b.2) = b from rfl]
      simp (disch := omega) only [dec_t, cond_true, cond_false, gd_true, Bool.not_true, Int.toNat_natCast, get_t, Option.bind_some, bind_id, nc1, wi_of, room_t, List.length_cons, List.length_nil, bReq, hrk, e1, e2]
    · exact ⟨b, acc, by simp (disch := omega) only [dec_t, dec_f, cond_false, gd_true, Int.toNat_natCast, bind_id, nc1, wi_of, room_t, List.length_cons, List.length_nil], hb⟩
theorem bRun_ok {N : Nat} (hN : 18446744073709551616 ≤ N) (c : List ReqT) (hc : c.length ≤ 120) (hr : ∀ r ∈ c, okReq r = true) : ∃ b codes, g_spec_BankRun N c = some (b, codes, 0) ∧ okBank b = true := by
  obtain ⟨b', acc', e, hb'⟩ := bRun_l8 hN c hc hr N 0 ([], []) [] (by omega) (by omega) (by omega) rfl (by rfl)
  have hb := okBank_iff.1 hb'
  have hO := bOwn N (b'.1, b'.2) (by dsimp only; omega) (by dsimp only; omega)
  refine ⟨b', acc', ?_, hb'⟩
  unfold g_spec_BankRun
  rw [Int.natCast_zero] at e
  simp (disch := omega) only [dec_f, cond_false, alt_inr, Option.bind_some, e, hO]
end Go.Vm
/- Disks: what the program and the reference do, in plain words. -/
set_option linter.unusedVariables false
set_option maxRecDepth 100000
namespace Go.Vm
abbrev DiskT := List (List UInt8) × List (Int × List UInt8) × List (List UInt8)
structure OkD (d : DiskT) : Prop where
  b1 : 1 ≤ d.1.length
  b2 : d.1.length ≤ 64
  b3 : ∀ x ∈ d.1, x.length ≤ 200
  c1 : d.2.1.length ≤ 4096
  c2 : ∀ p ∈ d.2.1, 0 ≤ p.1 ∧ p.1 < (d.1.length : Int) ∧ p.2.length ≤ 200
  s1 : d.2.2 = [] ∨ d.2.2.length = d.1.length
  s2 : ∀ x ∈ d.2.2, x.length ≤ 200
theorem OkD.s3 {d : DiskT} (h : OkD d) : d.2.2.length ≤ 64 := by
  rcases h.s1 with e | e
  · rw [e]; simp
  · rw [e]; exact h.b2
end Go.Vm
/- Disks: an act. -/
set_option linter.unusedVariables false
set_option maxRecDepth 100000
namespace Go.Vm
end Go.Vm
/- Disks: runs, reading, comparing. -/
set_option linter.unusedVariables false
set_option maxRecDepth 100000
namespace Go.Vm
end Go.Vm
/- Disks: which is right, what is read, which read the same. -/
set_option linter.unusedVariables false
set_option maxRecDepth 100000
namespace Go.Vm
end Go.Vm
/- Draws. -/
set_option linter.unusedVariables false
set_option maxRecDepth 100000
namespace Go.Vm
abbrev SrcT := List UInt8 × Int × Int
structure InS (K : Nat) (s : SrcT) : Prop where
  len : s.1.length ≤ 1048576
  p0 : 0 ≤ s.2.1
  p1 : s.2.1 ≤ (K : Int)
  s0 : 0 ≤ s.2.2
  s1 : s.2.2 < 2147483648
theorem InS.mono {K L : Nat} {s : SrcT} (h : InS K s) (hl : K ≤ L) : InS L s := ⟨h.len, h.p0, by have := h.p1; omega, h.s0, h.s1⟩
theorem tmod_r (x n : Int) (h0 : 0 ≤ x) (hn : 0 < n) : 0 ≤ x.tmod n ∧ x.tmod n < n := ⟨Int.tmod_nonneg _ h0, Int.tmod_lt_of_pos _ hn⟩
theorem byte_draw (N : Nat) {K : Nat} (hK : K ≤ 1000000000) {s : SrcT} (h : InS K s) : ∃ s' v, g_spec_l00Src_byte__v N s = some (s', v) ∧ InS (K + 1) s' ∧ 0 ≤ v ∧ v ≤ 255 := by
  obtain ⟨code, pos, seed⟩ := s
  obtain ⟨h1, h2, h3, h4, h5⟩ := h
  dsimp only at h1 h2 h3 h4 h5
  unfold g_spec_l00Src_byte__v
  dsimp only
  obtain ⟨p, rfl⟩ : ∃ p : Nat, pos = (p : Int) := ⟨pos.toNat, by omega⟩
  have e1 : wi ((p : Int) + 1) = ((p + 1 : Nat) : Int) := by rw [wi_of] <;> omega
  have e2 : wi (((p + 1 : Nat) : Int) - 1) = (p : Int) := by rw [wi_of] <;> omega
  rw [e1, e2]
  by_cases hp : p < code.length
  · have hb := (code[p]).toNat_lt
    simp (disch := omega) only [dec_t, cond_true, gd_true, Int.toNat_natCast, get_t, Option.bind_some, wi_u8, wi_of]
    have q := tmod_r (seed * 31 + (code[p].toNat : Int) + 7) 2147483648 (by omega) (by omega)
    exact ⟨_, _, rfl, ⟨h1, by dsimp only; omega, by dsimp only; omega, q.1, q.2⟩, by omega, by omega⟩
  · by_cases hq : 3000 < p + 1
    · simp (disch := omega) only [dec_t, dec_f, cond_true, cond_false, gd_true, Int.toNat_natCast, wi_u8, wi_of]
      exact ⟨_, _, rfl, ⟨h1, by dsimp only; omega, by dsimp only; omega, h4, h5⟩, by omega, by omega⟩
    · have q := tmod_r (seed * 1103515245 + 12345) 2147483648 (by omega) (by omega)
      have e3 : wi (wi (seed * 1103515245) + 12345) = seed * 1103515245 + 12345 := by rw [wi_of (x := seed * 1103515245) (by omega) (by omega), wi_of (by omega) (by omega)]
      rw [e3]
      generalize (seed * 1103515245 + 12345).tmod 2147483648 = z at q ⊢
      have q2 : z.tdiv 65536 = z / 65536 := Int.tdiv_eq_ediv_of_nonneg q.1
      have q3 := tmod_r (z / 65536) 256 (by omega) (by omega)
      simp (disch := omega) only [dec_t, dec_f, cond_false, gd_true, Int.toNat_natCast, wi_u8, wi_of, q2]
      exact ⟨_, _, rfl, ⟨h1, by dsimp only; omega, by dsimp only; omega, q.1, q.2⟩, q3.1, by omega⟩
theorem next_draw (N : Nat) {K : Nat} (hK : K ≤ 100000000) {s : SrcT} (h : InS K s) (n : Int) (h1 : 1 ≤ n) (h2 : n ≤ 1000000000) : ∃ s' v, g_spec_l00Src_next__vb N s n = some (s', v) ∧ InS (K + 3) s' ∧ 0 ≤ v ∧ v < n := by
  unfold g_spec_l00Src_next__vb
  by_cases e1 : n ≤ 1
  · rw [dec_t e1, cond_true]
    exact ⟨_, _, rfl, h.mono (by omega), by omega, by omega⟩
  · obtain ⟨s1, v1, d1, i1, a1, b1⟩ := byte_draw N (by omega) h
    rw [dec_f e1, cond_false, d1]
    by_cases e2 : n ≤ 256
    · have q := tmod_r v1 n a1 (by omega)
      simp (disch := omega) only [dec_t, cond_true, cond_false, Option.bind_some, wi_of, beq_fi]
      exact ⟨_, _, rfl, i1.mono (by omega), q.1, q.2⟩
    · obtain ⟨s2, v2, d2, i2, a2, b2⟩ := byte_draw N (by omega) i1
      obtain ⟨s3, v3, d3, i3, a3, b3⟩ := byte_draw N (by omega) i2
      have q := tmod_r (v1 * 65536 + v2 * 256 + v3) n (by omega) (by omega)
      simp (disch := omega) only [dec_f, cond_false, Option.bind_some, wi_of, beq_fi, d2, d3]
      exact ⟨_, _, rfl, i3, q.1, q.2⟩
theorem chance_draw (N : Nat) {K : Nat} (hK : K ≤ 100000000) {s : SrcT} (h : InS K s) (n : Int) (h1 : 1 ≤ n) (h2 : n ≤ 1000000000) : ∃ s' v, g_spec_l00Src_chance__vb N s n = some (s', v) ∧ InS (K + 3) s' := by
  obtain ⟨s', v, d, i, a, b⟩ := next_draw N hK h n h1 h2
  unfold g_spec_l00Src_chance__vb
  rw [d]
  exact ⟨_, _, rfl, i⟩
end Go.Vm
/- What is read of a disk is what was written last; behind a sync a crash changes nothing. -/
set_option linter.unusedVariables false
set_option maxRecDepth 100000
namespace Go.Vm
theorem source_ok (N : Nat) (code : List UInt8) (hc : code.length ≤ 1048576) : ∃ s, g_spec_l00Source N code = some s ∧ InS 0 s := by
  unfold g_spec_l00Source
  have q := tmod_r (code.length : Int) 1000 (by omega) (by omega)
  exact ⟨_, rfl, hc, by simp, by simp, q.1, by dsimp only; omega⟩
end Go.Vm
/- Words of 32 bits: turns, bytes of words; rounds. -/
set_option linter.unusedVariables false
namespace Go.Vm
theorem orB_range (b : Nat) (x y : Int) : 0 ≤ orB b x y ∧ orB b x y < 2 ^ b := by
  unfold orB
  have := (BitVec.ofInt b x ||| BitVec.ofInt b y).isLt
  constructor
  · omega
  · exact_mod_cast this
theorem w32_orB (x y : Int) : w32 (orB 32 x y) = orB 32 x y := by have := orB_range 32 x y; rw [w32_of] <;> omega
/-- A word whose lower bits are free takes a smaller one in. -/
theorem orB_add {k : Nat} {a y : Nat} (hy : y < 2 ^ k) (hx : 2 ^ k * a + y < 4294967296) : orB 32 ((2 ^ k * a : Nat) : Int) (y : Int) = ((2 ^ k * a + y : Nat) : Int) := by
  unfold orB
  rw [Nat.two_pow_add_eq_or_of_lt hy, BitVec.ofInt_natCast, BitVec.ofInt_natCast, BitVec.toNat_or, BitVec.toNat_ofNat, BitVec.toNat_ofNat, Nat.mod_eq_of_lt (by omega), Nat.mod_eq_of_lt (by omega)]
/-- One after another, from a number on. -/
def itF {α : Type} (f : Nat → α → α) : Nat → Nat → α → α
  | _, 0, x => x
  | i, n + 1, x => itF f (i + 1) n (f i x)
theorem itF_succ {α : Type} (f : Nat → α → α) {i m : Nat} (h : i < m) (x : α) : itF f i (m - i) x = itF f (i + 1) (m - (i + 1)) (f i x) := by
  rw [show m - i = (m - (i + 1)) + 1 by omega]; rfl
theorem itF_end {α : Type} (f : Nat → α → α) {i m : Nat} (h : ¬ i < m) (x : α) : itF f i (m - i) x = x := by
  rw [show m - i = 0 by omega]; rfl
theorem itF_inv {α : Type} (f : Nat → α → α) (P : α → Prop) (h : ∀ i x, P x → P (f i x)) : ∀ (n i : Nat) (x : α), P x → P (itF f i n x)
  | 0, _, _, hx => hx
  | n + 1, i, x, hx => itF_inv f P h n (i + 1) _ (h i x hx)
/-- A word of four bytes, the higher ones first. -/
def four (a b c d : UInt8) : Int := ((16777216 * a.toNat + (65536 * b.toNat + (256 * c.toNat + d.toNat)) : Nat) : Int)
theorem four_or (a b c d : UInt8) : orB 32 (orB 32 (orB 32 (w32 ((a.toNat : Int) * 2 ^ 24)) (w32 ((b.toNat : Int) * 2 ^ 16))) (w32 ((c.toNat : Int) * 2 ^ 8))) (d.toNat : Int) = four a b c d := by
  have ha := a.toNat_lt; have hb := b.toNat_lt; have hc := c.toNat_lt; have hd := d.toNat_lt
  rw [show (2 : Int) ^ 8 = 256 by decide, show (2 : Int) ^ 16 = 65536 by decide, show (2 : Int) ^ 24 = 16777216 by decide, w32_of (by omega) (by omega), w32_of (by omega) (by omega), w32_of (by omega) (by omega)]
  have e1 := orB_add (k := 24) (a := a.toNat) (y := 65536 * b.toNat) (by omega) (by omega)
  have e2 := orB_add (k := 16) (a := 256 * a.toNat + b.toNat) (y := 256 * c.toNat) (by omega) (by omega)
  have e3 := orB_add (k := 8) (a := 65536 * a.toNat + 256 * b.toNat + c.toNat) (y := d.toNat) (by omega) (by omega)
  rw [show (a.toNat : Int) * 16777216 = ((2 ^ 24 * a.toNat : Nat) : Int) by omega, show (b.toNat : Int) * 65536 = ((65536 * b.toNat : Nat) : Int) by omega, e1,
    show ((2 ^ 24 * a.toNat + 65536 * b.toNat : Nat) : Int) = ((2 ^ 16 * (256 * a.toNat + b.toNat) : Nat) : Int) by omega, show (c.toNat : Int) * 256 = ((256 * c.toNat : Nat) : Int) by omega, e2,
    show ((2 ^ 16 * (256 * a.toNat + b.toNat) + 256 * c.toNat : Nat) : Int) = ((2 ^ 8 * (65536 * a.toNat + 256 * b.toNat + c.toNat) : Nat) : Int) by omega, e3]
  unfold four; omega
/-- A word turned right. -/
def ror (n : Nat) (x : Int) : Int := orB 32 (shr x n) (w32 (x * 2 ^ (32 - n)))
end Go.Vm
/- SHA-256: numbers in bytes, turns, the schedule. -/
set_option linter.unusedVariables false
set_option maxRecDepth 100000
namespace Go.Vm
theorem w64_of {x : Int} (h1 : 0 ≤ x) (h2 : x < 18446744073709551616) : w64 x = x := by
  unfold w64 IntKind.wrap; simp [IntKind.bits, IntKind.signed]; omega
/-- A number's bytes, the higher ones first. -/
def bytesN : Nat → Int → List UInt8
  | 0, _ => []
  | s + 1, n => bytesN s (shr n 8) ++ [wb n]
theorem bytesN_length : ∀ (s : Nat) (n : Int), (bytesN s n).length = s
  | 0, _ => rfl
  | s + 1, n => by rw [bytesN, List.length_append, bytesN_length s]; rfl
theorem bytesOf_l3 (N : Nat) : ∀ (n s : Nat) (x : Int) (tl : List UInt8), s < n → s + tl.length ≤ 1000000 → g_impl_bytesOf.l3 N n x ((s : Int) - 1) (List.replicate s 0 ++ tl) = some (bytesN s x ++ tl)
  | 0, _, _, _, h, _ => by omega
  | n + 1, 0, x, tl, _, _ => by
    unfold g_impl_bytesOf.l3
    simp (disch := omega) only [dec_f, cond_false, bind_id, wi_of, Int.natCast_zero, List.replicate_zero, List.nil_append, bytesN]
  | n + 1, s + 1, x, tl, h, hl => by
    unfold g_impl_bytesOf.l3
    have e : (((s + 1 : Nat) : Int) - 1) = (s : Int) := by omega
    have e1 : (List.replicate (s + 1) (0 : UInt8) ++ tl)[s]? = some 0 := by
      rw [List.getElem?_append_left (by simp)]; simp
    have e2 : (List.replicate (s + 1) (0 : UInt8) ++ tl).set s (wb x) = List.replicate s 0 ++ (wb x :: tl) := by
      rw [List.replicate_succ', List.append_assoc, List.set_append_right _ _ (by simp)]
      simp
    rw [e]
    simp (disch := omega) only [dec_t, cond_true, gd_true, Int.toNat_natCast, Option.bind_some, bind_id, wi_of, List.length_append, List.length_replicate, e1, e2]
    rw [bytesOf_l3 N n s (shr x 8) (wb x :: tl) (by omega) (by simp only [List.length_cons]; omega), bytesN, List.append_assoc]
    rfl
theorem bytesOf_eq {N : Nat} (hN : 18446744073709551616 ≤ N) (x : Int) (s : Nat) (hs : s ≤ 1000) : g_impl_bytesOf N x (s : Int) = some (bytesN s x) := by
  unfold g_impl_bytesOf
  have := bytesOf_l3 N N s x [] (by omega) (by simp only [List.length_nil]; omega)
  rw [List.append_nil, List.append_nil] at this
  simp (disch := omega) only [dec_t, gd_true, Bool.and_self, Int.toNat_natCast, bind_id, wi_of, room_t, this]
theorem bytesN4 (x : Int) : bytesN 4 x = [wb (shr x 24), wb (shr x 16), wb (shr x 8), wb x] := by
  simp only [bytesN, List.nil_append, List.cons_append, shr8, shr16, shr24]
  rw [show x / 256 / 256 / 256 = x / 16777216 by omega, show x / 256 / 256 = x / 65536 by omega]
theorem sTurn {N : Nat} {x : Int} {n : Nat} (hn : n ≤ 32) : g_spec_l03Turn N x (n : Int) = some (ror n x) := by
  unfold g_spec_l03Turn
  have e : w64 (32 - (n : Int)) = ((32 - n : Nat) : Int) := by rw [w64_of (by omega) (by omega)]; omega
  rw [e]
  simp (disch := omega) only [dec_f, cond_false, Int.toNat_natCast, ror, w32_orB, Nat.min_eq_left hn, Nat.min_eq_left (show 32 - n ≤ 32 by omega)]
theorem st2 (N : Nat) (x : Int) : g_spec_l03Turn N x 2 = some (ror 2 x) := sTurn (n := 2) (by decide)
theorem st6 (N : Nat) (x : Int) : g_spec_l03Turn N x 6 = some (ror 6 x) := sTurn (n := 6) (by decide)
theorem st7 (N : Nat) (x : Int) : g_spec_l03Turn N x 7 = some (ror 7 x) := sTurn (n := 7) (by decide)
theorem st11 (N : Nat) (x : Int) : g_spec_l03Turn N x 11 = some (ror 11 x) := sTurn (n := 11) (by decide)
theorem st13 (N : Nat) (x : Int) : g_spec_l03Turn N x 13 = some (ror 13 x) := sTurn (n := 13) (by decide)
theorem st17 (N : Nat) (x : Int) : g_spec_l03Turn N x 17 = some (ror 17 x) := sTurn (n := 17) (by decide)
theorem st18 (N : Nat) (x : Int) : g_spec_l03Turn N x 18 = some (ror 18 x) := sTurn (n := 18) (by decide)
theorem st19 (N : Nat) (x : Int) : g_spec_l03Turn N x 19 = some (ror 19 x) := sTurn (n := 19) (by decide)
theorem st22 (N : Nat) (x : Int) : g_spec_l03Turn N x 22 = some (ror 22 x) := sTurn (n := 22) (by decide)
theorem st25 (N : Nat) (x : Int) : g_spec_l03Turn N x 25 = some (ror 25 x) := sTurn (n := 25) (by decide)
/-! ### The schedule -/
def sg0 (x : Int) : Int := w32 (xorB 32 (w32 (xorB 32 (ror 7 x) (ror 18 x))) (shr x 3))
def sg1 (x : Int) : Int := w32 (xorB 32 (w32 (xorB 32 (ror 17 x) (ror 19 x))) (shr x 10))
def wNew (w : List Int) (i : Nat) : Int := w32 ((w32 ((w32 ((w[i - 16]?.getD 0) + sg0 (w[i - 15]?.getD 0))) + (w[i - 7]?.getD 0))) + sg1 (w[i - 2]?.getD 0))
def fourAt (b : List UInt8) (i : Nat) : Int := four (b[4 * i]?.getD 0) (b[4 * i + 1]?.getD 0) (b[4 * i + 2]?.getD 0) (b[4 * i + 3]?.getD 0)
def wRnd (b : List UInt8) (i : Nat) (w : List Int) : List Int := if i < 16 then w.set i (fourAt b i) else w.set i (wNew w i)
theorem wRnd_length (b : List UInt8) (i : Nat) (w : List Int) : (wRnd b i w).length = w.length := by unfold wRnd; split <;> simp
theorem itF_wRnd (b : List UInt8) (n i : Nat) (w : List Int) (h : w.length = 64) : (itF (wRnd b) i n w).length = 64 := itF_inv _ (fun w => w.length = 64) (fun i w h => by rw [wRnd_length]; exact h) n i w h
theorem w32_u8 (c : UInt8) : w32 (c.toNat : Int) = (c.toNat : Int) := by have := c.toNat_lt; rw [w32_of] <;> omega
def schedF (b : List UInt8) : List Int := itF (wRnd b) 0 64 (List.replicate 64 0)
theorem schedF_length (b : List UInt8) : (schedF b).length = 64 := itF_wRnd b 64 0 _ (by simp)
end Go.Vm
/- SHA-256: rounds, blocks. -/
set_option linter.unusedVariables false
set_option maxRecDepth 100000
namespace Go.Vm
theorem sBlock_l2 {N : Nat} (hN : 18446744073709551616 ≤ N) (b : List UInt8) (hb : b.length = 64) (c1 m3 : List Int) : ∀ (n k : Nat) (w : List Int), 16 ≤ k + n - 1 → 0 < n → k ≤ 16 → w.length = 64 →
    g_spec_l03Block__ibb.l2 N n b c1 (k : Int) m3 w = some (m3, itF (wRnd b) k (16 - k) w)
  | 0, _, _, _, h, _, _ => by omega
  | n + 1, k, w, hn, _, hk, hw => by
    unfold g_spec_l03Block__ibb.l2
    by_cases h : k < 16
    · have e0 : (4 * (k : Int)).toNat = 4 * k := by omega
      have e1 : (4 * (k : Int) + 1).toNat = 4 * k + 1 := by omega
      have e2 : (4 * (k : Int) + 2).toNat = 4 * k + 2 := by omega
      have e3 : (4 * (k : Int) + 3).toNat = 4 * k + 3 := by omega
      have q := four_or b[4 * k] b[4 * k + 1] b[4 * k + 2] b[4 * k + 3]
      have ha := (b[4 * k]).toNat_lt; have hb := (b[4 * k + 1]).toNat_lt; have hc := (b[4 * k + 2]).toNat_lt; have hd := (b[4 * k + 3]).toNat_lt
      simp (disch := omega) only [dec_t, cond_true, gd_true, Int.toNat_natCast, get_t, Option.bind_some, bind_id, nc1, wi_of, e0, e1, e2, e3, w32_u8, w32_orB]
      have hf : fourAt b k = four b[4 * k] b[4 * k + 1] b[4 * k + 2] b[4 * k + 3] := by
        unfold fourAt
        rw [get_t (show 4 * k < b.length by omega), get_t (show 4 * k + 1 < b.length by omega), get_t (show 4 * k + 2 < b.length by omega), get_t (show 4 * k + 3 < b.length by omega)]
        rfl
      rw [q, ← hf, sBlock_l2 hN b (by assumption) c1 m3 n (k + 1) _ (by omega) (by omega) (by omega) (by simp [hw]), itF_succ _ h]
      simp only [wRnd, if_pos h]
    · rw [itF_end _ h]
      simp (disch := omega) only [dec_t, dec_f, cond_false, gd_true, Int.toNat_natCast, bind_id, nc1, wi_of]
theorem sBlock_l6 {N : Nat} (hN : 18446744073709551616 ≤ N) (b : List UInt8) (c0 m2 : List Int) : ∀ (n k : Nat) (w : List Int), 64 ≤ k + n - 1 → 0 < n → 16 ≤ k → k ≤ 64 → w.length = 64 →
    g_spec_l03Block__ibb.l6 N n c0 (k : Int) m2 w = some (m2, itF (wRnd b) k (64 - k) w)
  | 0, _, _, _, h, _, _, _ => by omega
  | n + 1, k, w, hn, _, h16, hk, hw => by
    unfold g_spec_l03Block__ibb.l6
    by_cases h : k < 64
    · have e1 : ((k : Int) - 15).toNat = k - 15 := by omega
      have e2 : ((k : Int) - 2).toNat = k - 2 := by omega
      have e3 : ((k : Int) - 16).toNat = k - 16 := by omega
      have e4 : ((k : Int) - 7).toNat = k - 7 := by omega
      have hr := sBlock_l6 hN b c0 m2 n (k + 1) (w.set k (wNew w k)) (by omega) (by omega) (by omega) (by omega) (by simp [hw])
      simp (disch := omega) only [dec_t, cond_true, gd_true, Int.toNat_natCast, get_t, Option.bind_some, bind_id, nc1, wi_of, e1, e2, e3, e4, st7, st18, st17, st19]
      rw [itF_succ _ h, wRnd, if_neg (by omega)]
      rw [wNew, sg0, sg1, get_t (show k - 16 < w.length by omega), get_t (show k - 15 < w.length by omega), get_t (show k - 7 < w.length by omega), get_t (show k - 2 < w.length by omega)] at hr ⊢
      exact hr
    · rw [itF_end _ h]
      simp (disch := omega) only [dec_t, dec_f, cond_false, gd_true, Int.toNat_natCast, bind_id, nc1, wi_of]
theorem itF_add {α : Type} (f : Nat → α → α) : ∀ (n m i : Nat) (x : α), itF f i (n + m) x = itF f (i + n) m (itF f i n x)
  | 0, m, i, x => by rw [Nat.zero_add]; rfl
  | n + 1, m, i, x => by rw [show n + 1 + m = (n + m) + 1 by omega, itF, itF, itF_add f n m (i + 1), show i + 1 + n = i + (n + 1) by omega]
/-! ### Rounds -/
def rT (k w a : Int) (e f g h : Int) : Int := w32 ((w32 ((w32 ((w32 (h + (w32 (xorB 32 (w32 (xorB 32 (ror 6 e) (ror 11 e))) (ror 25 e))))) + (w32 (xorB 32 (w32 (andB 32 e f)) (w32 (andB 32 (w32 (xorB 32 4294967295 e)) g)))))) + k)) + w)
def rU (a b c : Int) : Int := w32 ((w32 (xorB 32 (w32 (xorB 32 (ror 2 a) (ror 13 a))) (ror 22 a))) + (w32 (xorB 32 (w32 (xorB 32 (w32 (andB 32 a b)) (w32 (andB 32 a c)))) (w32 (andB 32 b c)))))
def rnd (k w : List Int) (i : Nat) : List Int → List Int
  | [a, b, c, d, e, f, g, h] => [w32 (rT (k[i]?.getD 0) (w[i]?.getD 0) a e f g h + rU a b c), a, b, c, w32 (d + rT (k[i]?.getD 0) (w[i]?.getD 0) a e f g h), e, f, g]
  | l => l
theorem len8 {l : List Int} (h : l.length = 8) : ∃ a b c d e f g h, l = [a, b, c, d, e, f, g, h] := by
  match l, h with
  | [a, b, c, d, e, f, g, h], _ => exact ⟨a, b, c, d, e, f, g, h, rfl⟩
theorem rnd_length (k w : List Int) (i : Nat) {x : List Int} (h : x.length = 8) : (rnd k w i x).length = 8 := by
  obtain ⟨a, b, c, d, e, f, g, h, rfl⟩ := len8 h; rfl
theorem sBlock_l13 {N : Nat} (hN : 18446744073709551616 ≤ N) (m2 k w : List Int) (hk : k.length = 64) (hw : w.length = 64) : ∀ (n i : Nat) (x : List Int), 64 ≤ i + n - 1 → 0 < n → i ≤ 64 → x.length = 8 →
    g_spec_l03Block__ibb.l13 N n k (i : Int) m2 w x = some (m2, itF (rnd k w) i (64 - i) x)
  | 0, _, _, _, h, _, _ => by omega
  | n + 1, i, x, hn, _, hi, hx => by
    unfold g_spec_l03Block__ibb.l13
    by_cases h : i < 64
    · have hr := sBlock_l13 hN m2 k w hk hw n (i + 1) (rnd k w i x) (by omega) (by omega) (by omega) (rnd_length _ _ _ hx)
      obtain ⟨a, b, c, d, e, f, g, h', rfl⟩ := len8 hx
      rw [itF_succ _ h]
      simp only [rnd, get_t (show i < k.length by omega), get_t (show i < w.length by omega), Option.getD_some] at hr ⊢
      simp (disch := omega) only [dec_t, cond_true, gd_true, Int.toNat_natCast, get_t, Option.bind_some, bind_id, nc1, wi_of, List.length_cons, List.length_nil, st6, st11, st25, st2, st13, st22]
      exact hr
    · rw [itF_end _ h]
      simp (disch := omega) only [dec_t, dec_f, cond_false, gd_true, Int.toNat_natCast, bind_id, nc1, wi_of]
/-- What is added behind all rounds. -/
def addR (v : List Int) (i : Nat) (h : List Int) : List Int := h.set i (w32 ((h[i]?.getD 0) + (v[i]?.getD 0)))
theorem addR_length (v : List Int) (i : Nat) (h : List Int) : (addR v i h).length = h.length := by simp [addR]
theorem sBlock_l21 {N : Nat} (hN : 18446744073709551616 ≤ N) (v : List Int) (hv : v.length = 8) : ∀ (n i : Nat) (x : List Int), 8 ≤ i + n - 1 → 0 < n → i ≤ 8 → x.length = 8 →
    g_spec_l03Block__ibb.l21 N n (i : Int) x v = some (itF (addR v) i (8 - i) x)
  | 0, _, _, _, h, _, _ => by omega
  | n + 1, i, x, hn, _, hi, hx => by
    unfold g_spec_l03Block__ibb.l21
    by_cases h : i < 8
    · have hr := sBlock_l21 hN v hv n (i + 1) (addR v i x) (by omega) (by omega) (by omega) (by rw [addR_length, hx])
      rw [itF_succ _ h]
      simp only [addR, get_t (show i < v.length by omega), get_t (show i < x.length by omega), Option.getD_some] at hr ⊢
      simp (disch := omega) only [dec_t, cond_true, gd_true, Int.toNat_natCast, get_t, Option.bind_some, bind_id, nc1, wi_of]
      exact hr
    · rw [itF_end _ h]
      simp (disch := omega) only [dec_t, dec_f, cond_false, gd_true, Int.toNat_natCast, bind_id, nc1, wi_of]
/-- A block. -/
def blockF (k h : List Int) (b : List UInt8) : List Int := itF (addR (itF (rnd k (schedF b)) 0 64 h)) 0 8 h
theorem rounds_length (k w : List Int) (n i : Nat) {x : List Int} (h : x.length = 8) : (itF (rnd k w) i n x).length = 8 := itF_inv _ (fun w => w.length = 8) (fun i x h => rnd_length _ _ _ h) n i x h
theorem adds_length (v : List Int) (n i : Nat) {x : List Int} (h : x.length = 8) : (itF (addR v) i n x).length = 8 := itF_inv _ (fun w => w.length = 8) (fun i x h => by rw [addR_length, h]) n i x h
theorem blockF_length (k : List Int) (b : List UInt8) {h : List Int} (hh : h.length = 8) : (blockF k h b).length = 8 := adds_length _ _ _ hh
theorem sBlock {N : Nat} (hN : 18446744073709551616 ≤ N) (k h : List Int) (hk : k.length = 64) (hh : h.length = 8) (b : List UInt8) (hb : b.length = 64) : g_spec_l03Block__ibb N h b k = some (blockF k h b) := by
  unfold g_spec_l03Block__ibb
  have hl : (itF (wRnd b) 0 16 (List.replicate 64 0)).length = 64 := itF_wRnd b 16 0 _ (by simp)
  have e1 := sBlock_l2 hN b hb k h N 0 (List.replicate 64 0) (by omega) (by omega) (by omega) (by simp)
  have e2 := sBlock_l6 hN b k h N 16 _ (by omega) (by omega) (by omega) (by omega) hl
  have e3 : itF (wRnd b) 16 (64 - 16) (itF (wRnd b) 0 16 (List.replicate 64 0)) = schedF b := by
    rw [schedF, show 64 = 16 + 48 by rfl, itF_add]
  have e4 := sBlock_l13 hN h k (schedF b) hk (schedF_length b) N 0 h (by omega) (by omega) (by omega) hh
  have e5 := sBlock_l21 hN (itF (rnd k (schedF b)) 0 64 h) (rounds_length _ _ _ _ hh) N 0 h (by omega) (by omega) (by omega) hh
  rw [Int.natCast_zero] at e1 e4 e5
  rw [show ((16 : Nat) : Int) = 16 from rfl, e3] at e2
  simp only [Nat.sub_zero] at e1 e4 e5
  rw [e1]
  simp only [Option.bind_some]
  rw [e2]
  simp (disch := omega) only [gd_true, Option.bind_some, bind_id, room_t, List.nil_append, e4]
  rw [e5]
  rfl
end Go.Vm
/- SHA-256 and HMAC: what both programs' hashes are. -/
set_option linter.unusedVariables false
set_option maxRecDepth 100000
namespace Go.Vm
def padN (n : Nat) : Nat := (120 - n % 64) % 64
theorem sHash_l3 (N : Nat) (c0 : List UInt8) (hh : List Int) : ∀ (n : Nat) (m : List UInt8), padN m.length < n → m.length + padN m.length ≤ 140737488355000 →
    g_spec_l03Hash.l3 N n c0 hh m = some (hh, m ++ List.replicate (padN m.length) 0)
  | 0, _, h, _ => by omega
  | n + 1, m, h, hm => by
    unfold g_spec_l03Hash.l3
    have e : (m.length : Int).tmod 64 = ((m.length % 64 : Nat) : Int) := rfl
    rw [e]
    by_cases h56 : m.length % 64 = 56
    · rw [show padN m.length = 0 by unfold padN; omega]
      simp (disch := omega) only [cond_false, gd_true, bind_id, room_t, bne_fi, List.replicate_zero, List.append_nil]
    · have e2 : padN m.length = padN (m ++ [(0 : UInt8)]).length + 1 := by simp only [List.length_append, List.length_cons, List.length_nil]; unfold padN; omega
      simp (disch := omega) only [cond_true, gd_true, bind_id, room_t, bne_ti]
      rw [sHash_l3 N c0 hh n _ (by omega) (by rw [List.length_append, List.length_cons, List.length_nil] at e2 ⊢; omega), e2, List.replicate_succ, List.append_assoc]
      rfl
theorem shr_shr (x : Int) (a b : Nat) : shr (shr x a) b = shr x (a + b) := by
  rw [shr_eq, shr_eq, shr_eq, Int.pow_add]
  exact Int.ediv_ediv_of_nonneg (Int.pow_nonneg (by decide))
theorem bytesN_succ : ∀ (s : Nat) (x : Int), bytesN (s + 1) x = wb (shr x (8 * s)) :: bytesN s x
  | 0, x => by
    simp only [bytesN, List.nil_append, Nat.mul_zero, shr_eq]
    simp
  | s + 1, x => by
    rw [bytesN, bytesN_succ s, shr_shr, show 8 + 8 * s = 8 * (s + 1) by omega]
    rfl
theorem sHash_l6 (N : Nat) (c0 : List UInt8) (hh : List Int) (hc : c0.length ≤ 140737488350000) : ∀ (n s : Nat) (m : List UInt8), s < n → s ≤ 8 → m.length + s ≤ 140737488355000 →
    g_spec_l03Hash.l6 N n c0 ((s : Int) - 1) hh m = some (hh, m ++ bytesN s (8 * (c0.length : Int)))
  | 0, _, _, h, _, _ => by omega
  | n + 1, 0, m, h, _, hm => by
    unfold g_spec_l03Hash.l6
    simp (disch := omega) only [dec_f, cond_false, gd_true, bind_id, wi_of, room_t, List.length_cons, List.length_nil, bytesN, List.append_nil]
  | n + 1, s + 1, m, h, h8, hm => by
    unfold g_spec_l03Hash.l6
    have e : (((s + 1 : Nat) : Int) - 1) = (s : Int) := by omega
    have e1 : (8 * (s : Int)).toNat = 8 * s := by omega
    rw [e]
    simp (disch := omega) only [dec_t, dec_f, cond_true, cond_false, gd_true, bind_id, wi_of, room_t, List.length_cons, List.length_nil, w64_of, e1, Nat.min_eq_left]
    rw [sHash_l6 N c0 hh hc n s _ (by omega) (by omega) (by simp only [List.length_append, List.length_cons, List.length_nil]; omega), bytesN_succ, List.append_assoc]
    rfl
/-- Blocks, one after another. -/
def blks (k : List Int) : Nat → List UInt8 → List Int → List Int
  | 0, _, h => h
  | j + 1, xs, h => blks k j (xs.drop 64) (blockF k h (xs.take 64))
theorem blks_length (k : List Int) : ∀ (j : Nat) (xs : List UInt8) {h : List Int}, h.length = 8 → (blks k j xs h).length = 8
  | 0, _, _, h => h
  | j + 1, xs, _, h => blks_length k j _ (blockF_length _ _ h)
theorem sHash_l11 {N : Nat} (hN : 18446744073709551616 ≤ N) (k : List Int) (hk : k.length = 64) (all : List UInt8) (ha : all.length ≤ 140737488355328) : ∀ (j n o : Nat) (h : List Int), all.length = o + 64 * j → j < n → h.length = 8 →
    g_spec_l03Hash.l11 N n (o : Int) h all k = some (blks k j (all.drop o) h)
  | 0, 0, o, h, hx, hn, hh => by omega
  | 0, n + 1, o, h, hx, _, hh => by
    unfold g_spec_l03Hash.l11
    simp (disch := omega) only [dec_t, dec_f, cond_false, gd_true, Bool.true_and, Int.toNat_natCast, bind_id, wi_of, blks]
  | j + 1, 0, o, h, hx, hn, hh => by omega
  | j + 1, n + 1, o, h, hx, hn, hh => by
    unfold g_spec_l03Hash.l11
    have e1 : ((o : Int) + 64) = ((o + 64 : Nat) : Int) := rfl
    have e2 : o + 64 - o = 64 := by omega
    have el : ((all.drop o).take 64).length = 64 := by rw [List.length_take, List.length_drop]; omega
    simp (disch := omega) only [dec_t, cond_true, gd_true, Bool.and_self, Int.toNat_natCast, Option.bind_some, bind_id, wi_of, e1, e2, sBlock hN k h hk hh _ el]
    rw [sHash_l11 hN k hk all ha j n (o + 64) _ (by omega) (by omega) (blockF_length _ _ hh), blks, List.drop_drop]
/-- The words' bytes. -/
def outF (h : List Int) (i : Nat) (l : List UInt8) : List UInt8 := l ++ bytesN 4 (h[i]?.getD 0)
theorem outs_length (h : List Int) : ∀ (n i : Nat) (l : List UInt8), (itF (outF h) i n l).length = l.length + 4 * n
  | 0, _, l => by simp [itF]
  | n + 1, i, l => by rw [itF, outs_length h n (i + 1), outF, List.length_append, bytesN_length]; omega
theorem sHash_l16 {N : Nat} (hN : 18446744073709551616 ≤ N) (h : List Int) (hh : h.length = 8) : ∀ (n i : Nat) (l : List UInt8), 8 ≤ i + n - 1 → 0 < n → i ≤ 8 → l.length ≤ 1000 - 4 * (8 - i) →
    g_spec_l03Hash.l16 N n (i : Int) h l = some (itF (outF h) i (8 - i) l)
  | 0, _, _, hn, _, _, _ => by omega
  | n + 1, i, l, hn, _, hi, hl => by
    unfold g_spec_l03Hash.l16
    by_cases h8 : i < 8
    · have hr := sHash_l16 hN h hh n (i + 1) (outF h i l) (by omega) (by omega) (by omega) (by rw [outF, List.length_append, bytesN_length]; omega)
      rw [itF_succ _ h8]
      simp only [outF, get_t (show i < h.length by omega), Option.getD_some, bytesN4] at hr ⊢
      simp (disch := omega) only [dec_t, cond_true, gd_true, Int.toNat_natCast, get_t, Option.bind_some, bind_id, nc1, wi_of, room_t, List.length_cons, List.length_nil]
      exact hr
    · rw [itF_end _ h8]
      simp (disch := omega) only [dec_t, dec_f, cond_false, gd_true, Int.toNat_natCast, bind_id, nc1, wi_of, room_t, List.length_cons, List.length_nil]
/-- What both programs' tables are. -/
def shaK : List Int := [1116352408, 1899447441, 3049323471, 3921009573, 961987163, 1508970993, 2453635748, 2870763221, 3624381080, 310598401, 607225278, 1426881987, 1925078388, 2162078206, 2614888103, 3248222580, 3835390401, 4022224774, 264347078, 604807628, 770255983, 1249150122, 1555081692, 1996064986, 2554220882, 2821834349, 2952996808, 3210313671, 3336571891, 3584528711, 113926993, 338241895, 666307205, 773529912, 1294757372, 1396182291, 1695183700, 1986661051, 2177026350, 2456956037, 2730485921, 2820302411, 3259730800, 3345764771, 3516065817, 3600352804, 4094571909, 275423344, 430227734, 506948616, 659060556, 883997877, 958139571, 1322822218, 1537002063, 1747873779, 1955562222, 2024104815, 2227730452, 2361852424, 2428436474, 2756734187, 3204031479, 3329325298]
theorem sConsts (N : Nat) : g_spec_l03Consts N () = some shaK := rfl
theorem shaK_length : shaK.length = 64 := rfl
def sha0 : List Int := [1779033703, 3144134277, 1013904242, 2773480762, 1359893119, 2600822924, 528734635, 1541459225]
/-- What is hashed, filled up. -/
def shaPad (b : List UInt8) : List UInt8 := (b ++ [128]) ++ List.replicate (padN (b ++ [(128 : UInt8)]).length) 0 ++ bytesN 8 (8 * (b.length : Int))
def sha (b : List UInt8) : List UInt8 := itF (outF (blks shaK ((shaPad b).length / 64) (shaPad b) sha0)) 0 8 []
theorem sha_length (b : List UInt8) : (sha b).length = 32 := outs_length _ 8 0 []
theorem shaPad_length (b : List UInt8) : (shaPad b).length = 64 * ((shaPad b).length / 64) ∧ (shaPad b).length ≤ b.length + 73 := by
  have : (shaPad b).length = b.length + 1 + padN (b.length + 1) + 8 := by
    simp only [shaPad, List.length_append, List.length_replicate, bytesN_length, List.length_cons, List.length_nil]
  rw [this]; unfold padN; omega
theorem sHash {N : Nat} (hN : 18446744073709551616 ≤ N) (b : List UInt8) (hb : b.length ≤ 70368744177664) : g_spec_l03Hash N b = some (sha b) := by
  obtain ⟨p1, p2⟩ := shaPad_length b
  have hl : (b ++ [(128 : UInt8)]).length = b.length + 1 := by simp
  have e1 := sHash_l3 N b sha0 N (b ++ [128]) (by unfold padN; omega) (by rw [hl]; unfold padN; omega)
  have hp : ((b ++ [(128 : UInt8)]) ++ List.replicate (padN (b ++ [(128 : UInt8)]).length) 0).length + 8 = (shaPad b).length := by
    simp only [shaPad, List.length_append, bytesN_length]
  have e2 := sHash_l6 N b sha0 (by omega) N 8 ((b ++ [(128 : UInt8)]) ++ List.replicate (padN (b ++ [(128 : UInt8)]).length) 0) (by omega) (by omega) (by omega)
  rw [show ((8 : Nat) : Int) - 1 = 7 from rfl] at e2
  have e5 : ((b ++ [128]) ++ List.replicate (padN (b ++ [(128 : UInt8)]).length) 0 ++ bytesN 8 (8 * (b.length : Int))) = shaPad b := rfl
  have e3 := sHash_l11 hN shaK shaK_length (shaPad b) (by omega) ((shaPad b).length / 64) N 0 sha0 (by omega) (by omega) rfl
  have e4 := sHash_l16 hN _ (blks_length shaK ((shaPad b).length / 64) (shaPad b) (h := sha0) rfl) N 0 [] (by omega) (by omega) (by omega) (by simp)
  rw [Int.natCast_zero] at e3 e4
  rw [e5] at e2
  unfold g_spec_l03Hash
  rw [room_t (by omega), room_t (by simp only [List.nil_append]; omega), show ([1779033703, 3144134277, 1013904242, 2773480762, 1359893119, 2600822924, 528734635, 1541459225] : List Int) = sha0 from rfl]
  simp only [gd_true, List.nil_append, e1, Option.bind_some]
  rw [e2]
  simp only [Option.bind_some, sConsts]
  rw [e3]
  simp only [Option.bind_some, List.drop_zero, e4]
  rfl
end Go.Vm
/- Banks: drawn requests are right. -/
set_option linter.unusedVariables false
set_option maxRecDepth 100000
namespace Go.Vm
theorem root_draw {N : Nat} (hN : 18446744073709551616 ≤ N) {K : Nat} (hK : K ≤ 100000000) {s : SrcT} (h : InS K s) : ∃ s' v, g_spec_l00Src_root__v N s = some (s', v) ∧ InS (K + 3) s' ∧ v.length = 32 := by
  unfold g_spec_l00Src_root__v
  obtain ⟨s1, v, e1, h1, _, _⟩ := next_draw N hK h 5 (by omega) (by omega)
  refine ⟨s1, sha [wb v], ?_, h1, sha_length _⟩
  simp only [e1, Option.bind_some, sHash hN [wb v] (by simp)]
theorem request_draw {N : Nat} (hN : 18446744073709551616 ≤ N) {K : Nat} (hK : K ≤ 10000000) {s : SrcT} (h : InS K s) : ∃ s' r, g_spec_l00Src_request__v N s = some (s', r) ∧ InS (K + 15) s' ∧ (0 ≤ r.1 ∧ r.1 < 3) ∧ (0 ≤ r.2.2.1 ∧ r.2.2.1 < 3) ∧ (1 ≤ r.2.2.2.1 ∧ r.2.2.2.1 ≤ 4) ∧ r.2.2.2.2.length = 32 := by
  unfold g_spec_l00Src_request__v
  obtain ⟨s1, v1, e1, h1, a1, b1⟩ := next_draw N (by omega) h 3 (by omega) (by omega)
  obtain ⟨s2, v2, e2, h2, a2, b2⟩ := next_draw N (by omega) h1 9 (by omega) (by omega)
  obtain ⟨s3, v3, e3, h3, a3, b3⟩ := next_draw N (by omega) h2 3 (by omega) (by omega)
  obtain ⟨s4, v4, e4, h4, a4, b4⟩ := next_draw N (by omega) h3 4 (by omega) (by omega)
  obtain ⟨s5, v5, e5, h5, a5⟩ := root_draw hN (by omega) h4
  refine ⟨s5, (v1, 1 + v2, v3, 1 + v4, v5), ?_, h5.mono (by omega), ⟨a1, b1⟩, ⟨a3, b3⟩, ⟨by dsimp only; omega, by dsimp only; omega⟩, a5⟩
  simp (disch := omega) only [Option.bind_some, wi_of, e1, e2, e3, e4, e5]
theorem requests_l4 {N : Nat} (hN : 18446744073709551616 ≤ N) : ∀ (n i K T : Nat) (s : SrcT) (acc : List ReqT) (q : List Int), i < n → K + 18 * i ≤ 10000 → InS K s → (∀ r ∈ acc, okReq r = true) → acc.length ≤ 120 → q.length = 3 → T + i ≤ 1000 → (∀ x ∈ q, 0 ≤ x ∧ x ≤ (T : Int)) →
    ∃ s' l, g_spec_l00Src_requests__v.l4 N n (i : Int) s.1 s.2.1 s.2.2 acc q = some (s'.1, s'.2.1, s'.2.2, l) ∧ InS (K + 18 * i) s' ∧ (∀ r ∈ l, okReq r = true) ∧ l.length ≤ 120
  | 0, _, _, _, _, _, _, h, _, _, _, _, _, _, _ => by omega
  | n + 1, 0, K, T, s, acc, q, _, hK, hs, ha, hl, hq, hT, hx => by
    unfold g_spec_l00Src_requests__v.l4
    exact ⟨s, acc, by simp (disch := omega) only [dec_f, cond_false, gd_true, bind_id, wi_of, room_t, List.length_set, List.length_cons, List.length_nil], hs.mono (by omega), ha, hl⟩
  | n + 1, i + 1, K, T, s, acc, q, h, hK, hs, ha, hl, hq, hT, hx => by
    unfold g_spec_l00Src_requests__v.l4
    have ei : (((i + 1 : Nat) : Int) - 1) = (i : Int) := by omega
    by_cases hc : acc.length < 120
    · obtain ⟨s1, r, e1, h1, r1, r2, r3, r4⟩ := request_draw hN (by omega) hs
      obtain ⟨s2, v, e2, h2⟩ := chance_draw N (by omega) h1 4 (by omega) (by omega)
      obtain ⟨z, hz⟩ := Int.eq_ofNat_of_zero_le r1.1
      have hzl : z < q.length := by omega
      have hqz := hx _ (List.getElem_mem hzl)
      rw [show (s.1, s.2.1, s.2.2) = s from rfl]
      have hwi : ∀ x : Int, 0 ≤ x → x ≤ 1000 → okReq (r.1, max 1 x, r.2.2) = true := fun x h0 h1 => okReq_iff.2 ⟨⟨r1.1, by dsimp only; omega⟩, ⟨by dsimp only; omega, by dsimp only; omega⟩, ⟨r2.1, by dsimp only; omega⟩, ⟨r3.1, by dsimp only; omega⟩, r4⟩
      have happ : ∀ x : ReqT, okReq x = true → ∀ y ∈ acc ++ [x], okReq y = true := fun x hx y hy => by
        rcases List.mem_append.1 hy with h | h
        · exact ha y h
        · simp only [List.mem_singleton] at h; rw [h]; exact hx
      cases v
      · obtain ⟨s3, l, e3, h3, a3, b3⟩ := requests_l4 hN n i (K + 18) (T + 1) s2 (acc ++ [(r.1, max 1 (q[z] + 1), r.2.2)]) (q.set z (q[z] + 1)) (by omega) (by omega) (h2.mono (by omega)) (happ _ (hwi _ (by omega) (by omega))) (by simp; omega) (by simpa using hq) (by omega) (mem_set (P := fun x => 0 ≤ x ∧ x ≤ ((T + 1 : Nat) : Int)) (fun y hy => by have := hx y hy; omega) (by omega))
        refine ⟨s3, l, ?_, h3.mono (by omega), a3, b3⟩
        have hs2 : (q.set z (q[z] + 1))[z]? = some (q[z] + 1) := by rw [List.getElem?_set_self hzl]
        rw [hz] at e3
        simp (disch := omega) only [dec_t, cond_true, gd_true, Bool.not_false, Int.toNat_natCast, get_t, Option.bind_some, bind_id, wi_of, room_t, List.length_set, List.length_cons, List.length_nil, e1, e2, hz, ei, hs2, e3]
      · obtain ⟨s3, l, e3, h3, a3, b3⟩ := requests_l4 hN n i (K + 18) (T + 1) s2 (acc ++ [(r.1, max 1 q[z], r.2.2)]) q (by omega) (by omega) (h2.mono (by omega)) (happ _ (hwi _ (by omega) (by omega))) (by simp; omega) hq (by omega) (fun y hy => by have := hx y hy; omega)
        refine ⟨s3, l, ?_, h3.mono (by omega), a3, b3⟩
        rw [hz] at e3
        simp (disch := omega) only [dec_t, cond_true, cond_false, gd_true, Bool.not_true, Int.toNat_natCast, get_t, Option.bind_some, bind_id, wi_of, room_t, List.length_set, List.length_cons, List.length_nil, e1, e2, hz, ei, e3]
    · refine ⟨s, acc, ?_, hs.mono (by omega), ha, hl⟩
      simp (disch := omega) only [dec_t, dec_f, cond_true, cond_false, gd_true, bind_id, wi_of, room_t, List.length_set, List.length_cons, List.length_nil]
theorem requests_draw {N : Nat} (hN : 18446744073709551616 ≤ N) (code : List UInt8) (hc : code.length ≤ 1048576) : ∃ l, g_spec_RequestsOf N code = some l ∧ l.length ≤ 120 ∧ ∀ r ∈ l, okReq r = true := by
  obtain ⟨s, e0, h0⟩ := source_ok N code hc
  have hlen : (s.1.length : Int).tdiv 12 = ((s.1.length / 12 : Nat) : Int) := rfl
  have hsl := h0.len
  obtain ⟨s1, v, e1, h1, a1, b1⟩ := next_draw N (K := 0) (by omega) h0 (min (1 + ((s.1.length / 12 : Nat) : Int)) 20 + 3) (by omega) (by omega)
  obtain ⟨j, rfl⟩ := Int.eq_ofNat_of_zero_le a1
  obtain ⟨s2, l, e2, h2, a2, b2⟩ := requests_l4 hN N j 3 0 s1 [] [0, 0, 0] (by omega) (by omega) h1 (by simp) (by simp) rfl (by omega) (by simp)
  refine ⟨l, ?_, b2, a2⟩
  unfold g_spec_RequestsOf g_spec_l00Src_requests__v g_spec_l00Src_size__qb
  simp (disch := omega) only [Option.bind_some, wi_of, e0, hlen, e1, e2]
end Go.Vm
/- Banks: what is read back from a right bank's bytes. -/
set_option linter.unusedVariables false
set_option maxRecDepth 100000
namespace Go.Vm
theorem wb_toNat {x : Int} (h : 0 ≤ x ∧ x ≤ 255) : ((wb x).toNat : Int) = x := by rw [toNat_wb]; omega
theorem numB_cons (c : UInt8) (l : List UInt8) : numB (c :: l) = c.toNat * 256 ^ l.length + numB l := by
  have := numB_append [c] l
  rw [List.singleton_append] at this
  rw [this]; simp [numB]
theorem numB_fourB {n : Int} (h : 0 ≤ n ∧ n < 4294967296) : ((numB (fourB n) : Nat) : Int) = n := by
  have h1 := toNat_wb (n / 16777216); have h2 := toNat_wb (n / 65536); have h3 := toNat_wb (n / 256); have h4 := toNat_wb n
  unfold fourB
  rw [numB_cons, numB_cons, numB_cons, numB_cons, show numB [] = 0 from rfl]
  simp only [List.length_cons, List.length_nil, Nat.reduceAdd, Nat.reducePow]
  omega
theorem numB_twoB {n : Int} (h : 0 ≤ n ∧ n < 65536) : ((numB (twoB n) : Nat) : Int) = n := by
  have e : n.tdiv 256 = n / 256 := Int.tdiv_eq_ediv_of_nonneg (by omega)
  have h3 := toNat_wb (n / 256); have h4 := toNat_wb n
  unfold twoB
  rw [e, numB_cons, numB_cons, show numB [] = 0 from rfl]
  simp only [List.length_cons, List.length_nil, Nat.reduceAdd, Nat.reducePow]
  omega
theorem numB_one {n : Int} (h : 0 ≤ n ∧ n ≤ 255) : ((numB [wb n] : Nat) : Int) = n := by
  have := wb_toNat h
  simp only [numB, List.foldl_cons, List.foldl_nil]; omega
theorem fourB_length (n : Int) : (fourB n).length = 4 := rfl
theorem rdReg_regB {r : RegT} (h : okReg r = true) (rest : List UInt8) : rdReg (regB r ++ rest) = r := by
  obtain ⟨h1, h2, h3⟩ := okReg_iff.1 h
  obtain ⟨v, c, t⟩ := r
  dsimp only at h1 h2 h3
  have e1 : (regB (v, c, t) ++ rest).take 1 = [wb v] := by simp [regB]
  have e2 : ((regB (v, c, t) ++ rest).drop 1).take 4 = fourB c := by
    simp only [regB, List.cons_append, List.drop_succ_cons, List.drop_zero, List.append_assoc]
    rw [List.take_append_of_le_length (by rw [fourB_length]; exact Nat.le_refl _), List.take_of_length_le (by rw [fourB_length]; exact Nat.le_refl _)]
  have e3 : ((regB (v, c, t) ++ rest).drop 5).take 32 = t := by
    simp only [regB, fourB, List.cons_append, List.nil_append, List.drop_succ_cons, List.drop_zero]
    rw [List.take_append_of_le_length (by omega), List.take_of_length_le (by omega)]
  unfold rdReg
  rw [e1, e2, e3, numB_one h1, numB_fourB ⟨by omega, by omega⟩]
theorem rdSes_sesB {s : SesT} (h : okSes s = true) (rest : List UInt8) : rdSes (sesB s ++ rest) = s := by
  obtain ⟨h1, h2, h3, h4⟩ := okSes_iff.1 h
  obtain ⟨i, q, c, m⟩ := s
  dsimp only at h1 h2 h3 h4
  have e1 : (sesB (i, q, c, m) ++ rest).take 2 = twoB i := by simp [sesB, twoB]
  have e2 : ((sesB (i, q, c, m) ++ rest).drop 2).take 2 = twoB q := by simp [sesB, twoB]
  have e3 : ((sesB (i, q, c, m) ++ rest).drop 4).take 1 = [wb c] := by simp [sesB, twoB]
  have e4 : ((sesB (i, q, c, m) ++ rest).drop 5).take 4 = fourB m := by simp [sesB, twoB, fourB]
  unfold rdSes
  rw [e1, e2, e3, e4, numB_twoB ⟨by omega, by omega⟩, numB_twoB ⟨by omega, by omega⟩, numB_one ⟨by omega, by omega⟩, numB_fourB ⟨by omega, by omega⟩]
theorem regB_len {r : RegT} (h : okReg r = true) : (regB r).length = 37 := by rw [regB_length, (okReg_iff.1 h).2.2]
theorem flatR_len : ∀ {l : List RegT}, (∀ r ∈ l, okReg r = true) → (l.flatMap regB).length = 37 * l.length
  | [], _ => rfl
  | r :: l, h => by
    rw [List.flatMap_cons, List.length_append, regB_len (h r (by simp)), flatR_len (fun x hx => h x (by simp [hx])), List.length_cons]; omega
theorem regsOf_flat : ∀ (l : List RegT) (rest : List UInt8), (∀ r ∈ l, okReg r = true) → regsOf l.length (l.flatMap regB ++ rest) = l
  | [], _, _ => rfl
  | r :: l, rest, h => by
    have h1 := h r (by simp)
    rw [List.length_cons, regsOf, List.flatMap_cons, List.append_assoc, rdReg_regB h1, List.drop_append_of_le_length (by rw [regB_len h1]; exact Nat.le_refl _), List.drop_of_length_le (by rw [regB_len h1]; exact Nat.le_refl _), List.nil_append, regsOf_flat l rest (fun x hx => h x (by simp [hx]))]
theorem sesOf_flat : ∀ (l : List SesT) (rest : List UInt8), (∀ r ∈ l, okSes r = true) → sesOf l.length (l.flatMap sesB ++ rest) = l
  | [], _, _ => rfl
  | r :: l, rest, h => by
    have h1 := h r (by simp)
    rw [List.length_cons, sesOf, List.flatMap_cons, List.append_assoc, rdSes_sesB h1, List.drop_append_of_le_length (by rw [sesB_length]; exact Nat.le_refl _), List.drop_of_length_le (by rw [sesB_length]; exact Nat.le_refl _), List.nil_append, sesOf_flat l rest (fun x hx => h x (by simp [hx]))]
theorem rdBank_bankB {b : BankT} (h : okBank b = true) : rdBank (bankB b) = (b, 0) := by
  have h0 := h
  rw [okBank_iff] at h
  obtain ⟨b1, b2, b3, b4, b5, b6⟩ := h
  obtain ⟨rs, ss⟩ := b
  dsimp only at b1 b2 b3 b4 b5 b6
  have hr := flatR_len b2
  have hs := flatMap_sesB_length ss
  have e1 : (wb (rs.length : Int)).toNat = rs.length := by have := wb_toNat (x := (rs.length : Int)) (by omega); omega
  have e2 : (wb (ss.length : Int)).toNat = ss.length := by have := wb_toNat (x := (ss.length : Int)) (by omega); omega
  have hd : (rs.flatMap regB ++ wb (ss.length : Int) :: ss.flatMap sesB).drop (37 * rs.length) = wb (ss.length : Int) :: ss.flatMap sesB := by
    rw [List.drop_append_of_le_length (by omega), List.drop_of_length_le (by omega), List.nil_append]
  unfold rdBank bankB
  dsimp only
  rw [if_neg (by simp only [List.length_cons, List.length_append, hr, hs]; omega), e1, if_neg (by simp only [List.length_cons, List.length_append, hr]; omega), hd]
  dsimp only
  have q := sesOf_flat ss [] b5
  rw [List.append_nil] at q
  rw [e2, regsOf_flat rs _ b2, q, if_pos ⟨hs, h0⟩]
/-- .. and what is read has those bytes. -/
theorem bankB_rdBank {t : List UInt8} {b : BankT} (h : rdBank t = (b, 0)) : okBank b = true ∧ bankB b = t := by
  unfold rdBank at h
  split at h
  · simp at h
  · split at h
    · simp at h
    · rename_i a t1 _
      split at h
      · simp at h
      · split at h
        · simp at h
        · rename_i c t2 hd
          split at h
          · rename_i hq
            simp only [Prod.mk.injEq, and_true] at h
            subst h
            refine ⟨hq.2, ?_⟩
            have hl : 37 * a.toNat ≤ t1.length := by omega
            have e1 : wb ((regsOf a.toNat t1).length : Int) = a := by rw [regsOf_length, wb_u8]
            have e2 : wb ((sesOf c.toNat t2).length : Int) = c := by rw [sesOf_length, wb_u8]
            unfold bankB
            dsimp only
            rw [e1, e2, flatMap_regsOf _ _ hl, flatMap_sesOf _ _ (by omega), List.take_of_length_le (l := t2) (by omega), ← hd, List.take_append_drop]
          · simp at h
end Go.Vm
/- Banks: the program's bytes; the law FnBankBytes. -/
set_option linter.unusedVariables false
set_option maxRecDepth 100000
namespace Go.Vm
theorem bO1 {N : Nat} (hN : 18446744073709551616 ≤ N) (x : Int) : g_impl_bytesOf N x 1 = some [wb x] := by
  have := bytesOf_eq hN x 1 (by omega)
  simpa [bytesN] using this
theorem bO2 {N : Nat} (hN : 18446744073709551616 ≤ N) (x : Int) : g_impl_bytesOf N x 2 = some [wb (x / 256), wb x] := by
  have := bytesOf_eq hN x 2 (by omega)
  simpa [bytesN, shr8] using this
theorem bO4 {N : Nat} (hN : 18446744073709551616 ≤ N) (x : Int) : g_impl_bytesOf N x 4 = some (fourB x) := by
  have := bytesOf_eq hN x 4 (by omega)
  rw [bytesN4] at this
  simpa [fourB, shr8, shr16, shr24] using this
theorem iBank_l3 {N : Nat} (hN : 18446744073709551616 ≤ N) (c : List RegT) (hc : c.length ≤ 6) (hl : ∀ r ∈ c, okReg r = true) (d : List RegT) (e : List SesT) : ∀ (n k : Nat) (acc : List UInt8), c.length ≤ k + n - 1 → 0 < n → k ≤ c.length → acc.length ≤ 1000 + 37 * k →
    g_impl_bankBytes.l3 N n c (c.length : Int) acc (k : Int) d e = some (acc ++ (c.drop k).flatMap regB, d, e)
  | 0, _, _, _, h, _, _ => by omega
  | n + 1, k, acc, hn, _, hk, ha => by
    unfold g_impl_bankBytes.l3
    by_cases h : k < c.length
    · have hr := regB_len (hl _ (List.getElem_mem h))
      have hr' : ([wb c[k].1] ++ fourB c[k].2.1 ++ c[k].2.2) = regB c[k] := by simp [regB]
      have h2 := ((okReg_iff.1 (hl _ (List.getElem_mem h))).2.2)
      rw [drop_get h]
      simp (disch := omega) only [dec_t, cond_true, gd_true, Int.toNat_natCast, get_t, Option.bind_some, bind_id, nc1, wi_of, List.length_append, List.length_cons, List.length_nil, bO1 hN, bO4 hN, fourB_length, h2]
      rw [hr']
      rw [iBank_l3 hN c hc hl d e n (k + 1) _ (by omega) (by omega) (by omega) (by simp only [List.length_append, hr]; omega)]
      simp only [List.flatMap_cons, List.append_assoc]
      rw [gd_t (by simp)]
    · simp (disch := omega) only [dec_t, dec_f, cond_false, gd_true, Int.toNat_natCast, bind_id, nc1, wi_of, List.length_append, List.drop_of_length_le, List.flatMap_nil, List.append_nil]
theorem iBank_l9 {N : Nat} (hN : 18446744073709551616 ≤ N) (c : List SesT) (hc : c.length ≤ 6) (hl : ∀ r ∈ c, okSes r = true) : ∀ (n k : Nat) (acc : List UInt8), c.length ≤ k + n - 1 → 0 < n → k ≤ c.length → acc.length ≤ 1000 + 9 * k →
    g_impl_bankBytes.l9 N n c (c.length : Int) acc (k : Int) = some (acc ++ (c.drop k).flatMap sesB)
  | 0, _, _, _, h, _, _ => by omega
  | n + 1, k, acc, hn, _, hk, ha => by
    unfold g_impl_bankBytes.l9
    by_cases h : k < c.length
    · have hs := okSes_iff.1 (hl _ (List.getElem_mem h))
      have t1 : c[k].1.tdiv 256 = c[k].1 / 256 := Int.tdiv_eq_ediv_of_nonneg (by omega)
      have t2 : c[k].2.1.tdiv 256 = c[k].2.1 / 256 := Int.tdiv_eq_ediv_of_nonneg (by omega)
      have hr' : ([wb (c[k].1 / 256), wb c[k].1] ++ [wb (c[k].2.1 / 256), wb c[k].2.1] ++ [wb c[k].2.2.1] ++ fourB c[k].2.2.2) = sesB c[k] := by simp [sesB, twoB, t1, t2]
      rw [drop_get h]
      simp (disch := omega) only [dec_t, cond_true, gd_true, Int.toNat_natCast, get_t, Option.bind_some, bind_id, nc1, wi_of, List.length_append, List.length_cons, List.length_nil, bO1 hN, bO2 hN, bO4 hN, fourB_length]
      rw [hr', iBank_l9 hN c hc hl n (k + 1) _ (by omega) (by omega) (by omega) (by simp only [List.length_append, sesB_length]; omega)]
      simp only [List.flatMap_cons, List.append_assoc]
      rw [gd_t (by simp)]
      exact gd_t (decide_eq_true (by omega)) _
    · simp (disch := omega) only [dec_t, dec_f, cond_false, gd_true, Int.toNat_natCast, bind_id, nc1, wi_of, List.length_append, List.drop_of_length_le, List.flatMap_nil, List.append_nil]
theorem iBank_eq {N : Nat} (hN : 18446744073709551616 ≤ N) (b : BankT) (h : okBank b = true) : g_impl_bankBytes N b = some (bankB b) := by
  obtain ⟨k1, k2, _, k4, k5, _⟩ := okBank_iff.1 h
  have hf := flatR_len k2
  have e3 := iBank_l3 hN b.1 k1 k2 b.1 b.2 N 0 [wb (b.1.length : Int)] (by omega) (by omega) (by omega) (by simp)
  have e9 := iBank_l9 hN b.2 k4 k5 N 0 ([wb (b.1.length : Int)] ++ b.1.flatMap regB ++ [wb (b.2.length : Int)]) (by omega) (by omega) (by omega) (by simp only [List.length_append, List.length_cons, List.length_nil]; omega)
  simp only [Int.natCast_zero, List.drop_zero] at e3 e9
  unfold g_impl_bankBytes
  simp (disch := omega) only [dec_t, gd_true, Option.bind_some, bind_id, List.length_append, List.length_cons, List.length_nil, bO1 hN, e3, hf, e9]
  simp [bankB]
theorem iBankBytes_eq {N : Nat} (hN : 18446744073709551616 ≤ N) (b : BankT) (h : okBank b = true) : g_impl_BankBytes N b = some (bankB b, 0) := by
  obtain ⟨k1, k2, _, k4, k5, _⟩ := okBank_iff.1 h
  unfold g_impl_BankBytes
  rw [BankOK_eq hN b (by omega) (by omega), h]
  simp only [cond_false, Bool.not_true, Option.bind_some, iBank_eq hN b h]
theorem sBankBytes_eq {N : Nat} (hN : 18446744073709551616 ≤ N) (b : BankT) (h : okBank b = true) : g_spec_BankBytes N b = some (bankB b, 0) := by
  obtain ⟨k1, k2, _, k4, k5, _⟩ := okBank_iff.1 h
  have hf := flatR_len k2
  unfold g_spec_BankBytes
  rw [sBankOK_eq hN b (by omega) (by omega), h]
  simp only [cond_false, Bool.not_true, Option.bind_some, l08Bytes_eq hN b (by omega) (by omega) (by omega)]
theorem same_l4 (N : Nat) (c : List RegT) (hc : c.length ≤ 6) (d e : List SesT) : ∀ (n k : Nat), c.length ≤ k + n - 1 → 0 < n → k ≤ c.length →
    g_laws_sameBank.l4 N n (k : Int) c d c e = some (.inr (c, d, c, e))
  | 0, _, _, h, _ => by omega
  | n + 1, k, hn, _, hk => by
    unfold g_laws_sameBank.l4
    by_cases h : k < c.length
    · simp (disch := omega) only [dec_t, cond_true, cond_false, gd_true, Bool.not_true, Bool.and_self, Int.toNat_natCast, get_t, Option.bind_some, bind_id, nc1, wi_of, beq_self_eq_true, same_l4 N c hc d e n (k + 1)]
    · simp (disch := omega) only [dec_t, dec_f, cond_false, gd_true, Int.toNat_natCast, bind_id, nc1, wi_of]
theorem same_l9 (N : Nat) (c : List SesT) (hc : c.length ≤ 6) (d e : List RegT) : ∀ (n k : Nat), c.length ≤ k + n - 1 → 0 < n → k ≤ c.length →
    g_laws_sameBank.l9 N n (k : Int) d c e c = some (.inr ())
  | 0, _, _, h, _ => by omega
  | n + 1, k, hn, _, hk => by
    unfold g_laws_sameBank.l9
    by_cases h : k < c.length
    · simp (disch := omega) only [dec_t, cond_true, cond_false, gd_true, Bool.not_true, Bool.and_self, Int.toNat_natCast, get_t, Option.bind_some, bind_id, nc1, wi_of, beq_self_eq_true, same_l9 N c hc d e n (k + 1)]
    · simp (disch := omega) only [dec_t, dec_f, cond_false, gd_true, Int.toNat_natCast, bind_id, nc1, wi_of]
theorem same_ok {N : Nat} (hN : 18446744073709551616 ≤ N) (b : BankT) (h : okBank b = true) : g_laws_sameBank N b b = some true := by
  obtain ⟨k1, k2, _, k4, k5, _⟩ := okBank_iff.1 h
  have e4 := same_l4 N b.1 k1 b.2 b.2 N 0 (by omega) (by omega) (by omega)
  have e9 := same_l9 N b.2 k4 b.1 b.1 N 0 (by omega) (by omega) (by omega)
  rw [Int.natCast_zero] at e4 e9
  unfold g_laws_sameBank
  simp only [cond_false, alt_inr, Option.bind_some, bne_self_eq_false, e4, e9]
theorem FnBankBytes_true {N : Nat} (hN : 18446744073709551616 ≤ N) (code : List UInt8) : g_laws_FnBankBytes N code = some true := by
  unfold g_laws_FnBankBytes
  by_cases q0 : code.length ≤ 1048576
  · obtain ⟨l, e1, k1, k2⟩ := requests_draw hN code q0
    obtain ⟨b, codes, e2, hb⟩ := bRun_ok hN l k1 k2
    have e3 := iBankBytes_eq hN b hb
    have e4 := sBankBytes_eq hN b hb
    have e5 := iReadBank_eq hN (bankB b)
    rw [rdBank_bankB hb] at e5
    have e6 := same_ok hN b hb
    have e7 := iReadBank_eq hN code
    have e8 := sReadBank_eq hN code (by omega)
    cases hq : rdBank code with
    | mk b2 f =>
      rw [hq] at e7 e8
      by_cases q : f = 0
      · subst q
        obtain ⟨hb2, e⟩ := bankB_rdBank hq
        have e9 := iBankBytes_eq hN b2 hb2
        rw [e] at e9
        simp (disch := omega) only [dec_f, cond_true, cond_false, Bool.not_true, Option.bind_some, bne_fi, e1, e2, e3, e4, e5, e6, e7, e8, e9, beq_self_eq_true]
      · simp (disch := omega) only [dec_f, cond_true, cond_false, Bool.not_true, Option.bind_some, bne_ti, bne_fi, e1, e2, e3, e4, e5, e6, e7, e8, beq_self_eq_true]
  · simp (disch := omega) only [dec_t, cond_true]
theorem law_FnBankBytes (code : List UInt8) {q : Prop} (_ : q) : ∃ N, g_laws_FnBankBytes N code = some true :=
  ⟨18446744073709551616, FnBankBytes_true (Nat.le_refl _) code⟩
end Go.Vm

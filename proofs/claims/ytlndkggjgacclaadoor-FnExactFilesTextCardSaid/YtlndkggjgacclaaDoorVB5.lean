/- A part of the proof: an abstract machine, mirrors and their laws, one text behind the other. -/
import Derived.Test.YtlndkggjgacclaaDoorVB4
/- Files: found by both; right files; the text of files. -/
set_option linter.unusedVariables false
set_option maxRecDepth 100000
namespace Go.Vm
/-! ### Rising paths, and one of them -/
def risF : List FileT → Bool
  | a :: b :: l => Op.bytesLess a.1 b.1 && risF (b :: l)
  | _ => true
def posF (v : List UInt8) : List FileT → Nat
  | [] => 0
  | x :: xs => if Op.bytesLess x.1 v then posF v xs + 1 else 0
def fdF (v : List UInt8) : List FileT → Nat → Option Nat
  | [], _ => none
  | x :: xs, k => if x.1 = v then some k else fdF v xs (k + 1)
theorem risF_tail {a : FileT} {l : List FileT} (h : risF (a :: l) = true) : risF l = true := by
  cases l with
  | nil => rfl
  | cons b l => simp only [risF, Bool.and_eq_true] at h; exact h.2
theorem risF_head : ∀ {a : FileT} {l : List FileT}, risF (a :: l) = true → ∀ x ∈ l, Op.bytesLess a.1 x.1 = true
  | a, b :: l, h, x, hx => by
    simp only [risF, Bool.and_eq_true] at h
    rcases List.mem_cons.1 hx with rfl | hx
    · exact h.1
    · exact less_trans h.1 (risF_head h.2 x hx)
theorem posF_le (v : List UInt8) : ∀ l, posF v l ≤ l.length
  | [] => Nat.le_refl _
  | x :: xs => by unfold posF; split <;> simp [posF_le v xs]
theorem posF_lt (v : List UInt8) : ∀ {l : List FileT}, risF l = true → ∀ (h : Nat) (hh : h < l.length), (Op.bytesLess l[h].1 v = true ↔ h < posF v l)
  | x :: xs, hr, 0, hh => by
    unfold posF
    by_cases q : Op.bytesLess x.1 v = true <;> simp [q]
  | x :: xs, hr, h + 1, hh => by
    unfold posF
    have ih := posF_lt v (risF_tail hr) h (by simpa using hh)
    by_cases q : Op.bytesLess x.1 v = true
    · simp only [q, if_true, List.getElem_cons_succ, Nat.add_lt_add_iff_right]; exact ih
    · rw [if_neg q]
      constructor
      · intro k
        exact absurd (less_trans (risF_head hr _ (List.getElem_mem (by simpa using hh))) k) q
      · intro k; omega
theorem fdF_pos (v : List UInt8) : ∀ {l : List FileT} (k : Nat), risF l = true → fdF v l k = (match l[posF v l]? with | some x => if x.1 = v then some (k + posF v l) else none | none => none)
  | [], k, _ => rfl
  | x :: xs, k, hr => by
    unfold fdF posF
    by_cases q : Op.bytesLess x.1 v = true
    · have : x.1 ≠ v := fun e => by rw [e, less_irrefl] at q; cases q
      rw [if_neg this, if_pos q, fdF_pos v (k + 1) (risF_tail hr), List.getElem?_cons_succ]
      cases xs[posF v xs]? with
      | none => rfl
      | some y => simp only [show k + 1 + posF v xs = k + (posF v xs + 1) by omega]
    · rw [if_neg q, List.getElem?_cons_zero]
      by_cases e : x.1 = v
      · simp [e]
      · simp only [e, if_false]
        have l1 : Op.bytesLess v x.1 = true := by
          have := less_or x.1 v
          rw [Bool.not_eq_true] at q
          rw [q, Bool.false_or] at this
          have hb : (x.1 == v) = false := by simp [e]
          rw [hb] at this
          cases h : Op.bytesLess v x.1
          · rw [h] at this; cases this
          · rfl
        have : ∀ (ys : List FileT) (j : Nat), (∀ y ∈ ys, Op.bytesLess x.1 y.1 = true) → fdF v ys j = none := by
          intro ys
          induction ys with
          | nil => intro _ _; rfl
          | cons y ys ih =>
            intro j h
            have hy := less_trans l1 (h y (List.mem_cons_self ..))
            have : y.1 ≠ v := fun e => by rw [e, less_irrefl] at hy; cases hy
            rw [fdF, if_neg this]
            exact ih (j + 1) fun z hz => h z (List.mem_cons_of_mem _ hz)
        exact this xs (k + 1) (risF_head hr)
theorem l11Find_l2 (N : Nat) : ∀ (n k : Nat) (c : List FileT) (v : List UInt8), c.length ≤ k + n - 1 → 0 < n → k ≤ c.length → c.length ≤ 1000000000 →
    g_bo.l2 N n c v (k : Int) = some (match fdF v (c.drop k) k with | some j => .inl (j : Int) | none => .inr ())
  | 0, _, _, _, _, h, _, _ => by omega
  | n + 1, k, c, v, hn, _, hk, hc => by
    unfold g_bo.l2
    by_cases h : k < c.length
    · simp (disch := omega) only [dec_t, cond_true, gd_true, Int.toNat_natCast, get_t, Option.bind_some, bind_id, nc1, wi_of, drop_get h, fdF]
      by_cases q : c[k].1 = v
      · have e : (c[k].1 == v) = true := by simp [q]
        rw [e]
        simp only [q, cond_true, if_true]
      · have e : (c[k].1 == v) = false := by simp [q]
        simp only [e, q, cond_false, if_false]
        exact l11Find_l2 N n (k + 1) c v (by omega) (by omega) (by omega) hc
    · simp (disch := omega) only [dec_t, dec_f, cond_false, gd_true, Int.toNat_natCast, bind_id, nc1, wi_of, List.drop_of_length_le, fdF]
theorem fdF_lt (v : List UInt8) : ∀ (l : List FileT) (k j : Nat), fdF v l k = some j → k ≤ j ∧ j < k + l.length
  | [], _, _, h => by cases h
  | x :: xs, k, j, h => by
    unfold fdF at h
    split at h
    · cases h; simp
    · have := fdF_lt v xs (k + 1) j h; simp; omega
theorem specFind_eq {N : Nat} (hN : 18446744073709551616 ≤ N) (c : List FileT) (v : List UInt8) (hc : c.length ≤ 1000000000) : g_bo N c v = some (match fdF v c 0 with | some j => (j : Int) | none => -1) := by
  unfold g_bo
  have key := l11Find_l2 N N 0 c v (by omega) (by omega) (by omega) hc
  rw [Int.natCast_zero, List.drop_zero] at key
  rw [key]
  cases fdF v c 0 <;> rfl
def homeF (c : List FileT) (p : List UInt8) : Int := if p = [] then 0 else match fdF p c 0 with | some k => (match c[k]? with | some f => bif f.2.1 then 0 else 17 | none => 5) | none => 5
theorem specHome_eq {N : Nat} (hN : 18446744073709551616 ≤ N) (c : List FileT) (p : List UInt8) (hc : c.length ≤ 1000000000) : g_bp N c p = some (homeF c p) := by
  unfold g_bp homeF
  by_cases q : p = []
  · have e : (p == []) = true := by simp [q]
    rw [e, cond_true, if_pos q]
  · have e : (p == []) = false := by simp [q]
    rw [e, cond_false, if_neg q, specFind_eq hN c p hc, Option.bind_some]
    cases h : fdF p c 0 with
    | none => rfl
    | some k =>
      have hk := (fdF_lt p c 0 k h).2
      simp (disch := omega) only [dec_t, dec_f, cond_false, gd_true, Int.toNat_natCast, Option.bind_some, List.getElem?_eq_getElem (show k < c.length by omega)]
      cases c[k].2.1 <;> rfl
theorem find_l3 (N : Nat) (c : List FileT) (v : List UInt8) (hr : risF c = true) (hc : c.length ≤ 1000000000) : ∀ (n i j : Nat), j - i < n → i ≤ posF v c → posF v c ≤ j → j ≤ c.length → ∀ z : Int,
    g_bc.l3 N n c v z (i : Int) (j : Int) = some (posF v c : Int)
  | 0, _, _, h, _, _, _, _ => by omega
  | n + 1, i, j, hn, hi, hj, hl, z => by
    unfold g_bc.l3
    by_cases h : i < j
    · have e1 : wi (shr (w64 (wi ((i : Int) + (j : Int)))) 1) = (((i + j) / 2 : Nat) : Int) := by
        have a1 : wi ((i : Int) + (j : Int)) = (i : Int) + (j : Int) := wi_of (by omega) (by omega)
        have a2 : w64 ((i : Int) + (j : Int)) = (i : Int) + (j : Int) := by
          unfold w64 IntKind.wrap; simp [IntKind.bits, IntKind.signed]; omega
        rw [a1, a2, shr_eq, show (2 : Int) ^ 1 = 2 by decide, wi_of (by omega) (by omega)]
        omega
      have hm : (i + j) / 2 < c.length := by omega
      rw [dec_t (by omega), cond_true, e1, dec_t (by omega), gd_true, Int.toNat_natCast, get_t hm, Option.bind_some]
      unfold g_al g_bt g_aq
      rw [Option.bind_some, Option.bind_some, Option.bind_some, cmp_neg]
      have key := posF_lt v hr _ hm
      by_cases q : Op.bytesLess c[(i + j) / 2].1 v = true
      · have hq := key.1 q
        rw [q, cond_true, nc1, wi_of (by omega) (by omega)]
        dsimp only
        rw [find_l3 N c v hr hc n ((i + j) / 2 + 1) j (by omega) (by omega) hj hl]; rfl
      · have hq : ¬ (i + j) / 2 < posF v c := fun h => q (key.2 h)
        rw [Bool.not_eq_true] at q
        rw [q, cond_false, find_l3 N c v hr hc n i ((i + j) / 2) (by omega) hi (by omega) (by omega)]; rfl
    · rw [dec_f (by omega), cond_false]
      congr 1; omega
theorem implFind_eq {N : Nat} (hN : 18446744073709551616 ≤ N) (c : List FileT) (v : List UInt8) (hr : risF c = true) (hc : c.length ≤ 1000000000) :
    g_ak N c v = some ((posF v c : Int), match c[posF v c]? with | some x => decide (x.1 = v) | none => false) := by
  unfold g_ak g_bc
  have key := find_l3 N c v hr hc N 0 c.length (by omega) (by omega) (posF_le v c) (Nat.le_refl _) (c.length : Int)
  rw [Int.natCast_zero] at key
  rw [key, Option.bind_some, bind_id]
  by_cases h : posF v c < c.length
  · simp (disch := omega) only [dec_t, cond_true, gd_true, Int.toNat_natCast, Option.bind_some, List.getElem?_eq_getElem h]
    unfold g_al g_bt g_aq
    simp only [Option.bind_some, cmp_zero]
  · rw [dec_f (by omega), cond_false, List.getElem?_eq_none (by omega)]
theorem parentCode_eq {N : Nat} (hN : 18446744073709551616 ≤ N) (c : List FileT) (p : List UInt8) (hr : risF c = true) (hc : c.length ≤ 1000000000) (hp : p.length ≤ 1000000000) : g_ao N c p = some (homeF c (parF p)) := by
  unfold g_ao homeF
  rw [implParent_eq hN p hp, Option.bind_some, implFind_eq hN c _ hr hc, Option.bind_some, fdF_pos (parF p) 0 hr]
  generalize parF p = v
  by_cases q : v = []
  · have e : (v == []) = true := by simp [q]
    rw [e, cond_true, if_pos q]
  · have e : (v == []) = false := by simp [q]
    rw [e, cond_false, if_neg q]
    by_cases h : posF v c < c.length
    · simp only [List.getElem?_eq_getElem h]
      by_cases w : c[posF v c].1 = v
      · simp (disch := omega) only [dec_t, decide_true, cond_false, gd_true, Bool.not_true, Int.toNat_natCast, Option.bind_some, w, if_true, Nat.zero_add, List.getElem?_eq_getElem h]
        cases c[posF v c].2.1 <;> rfl
      · simp only [w, decide_false, Bool.not_false, cond_true, if_false]
    · simp only [List.getElem?_eq_none (show c.length ≤ posF v c by omega), Bool.not_false, cond_true]
/-! ### Right files -/
def okOne (f : FileT) : Bool := okPath f.1 && (decide (f.2.2.length ≤ 200) && (!f.2.1 || decide (f.2.2 = [])))
def homed (c : List FileT) (f : FileT) : Bool := homeF c (parF f.1) == 0
def okFiles (c : List FileT) : Bool := decide (c.length ≤ 12) && (risF c && (c.all okOne && c.all (homed c)))
theorem specFiles_l6 {N : Nat} (hN : 18446744073709551616 ≤ N) (c : List FileT) (hc : c.length ≤ 1000000) (hb : bdFileS 1000000000 c) : ∀ (n k : Nat), c.length ≤ k + n → 0 < n → k + 1 ≤ c.length ∨ k = 0 →
    g_bh.l6 N n c ((k + 1 : Nat) : Int) = some (bif risF (c.drop k) && ((c.drop (k + 1)).all okOne && (c.drop (k + 1)).all (homed c)) then .inr () else .inl false)
  | 0, _, _, h, _ => by omega
  | n + 1, k, hn, _, hk => by
    unfold g_bh.l6
    by_cases h : k + 1 < c.length
    · have e1 : c.drop k = c[k] :: c.drop (k + 1) := drop_get (show k < c.length by omega)
      have e2 : c.drop (k + 1) = c[k + 1] :: c.drop (k + 1 + 1) := drop_get h
      have hx := hb.2 _ (List.getElem_mem h)
      have hl1 : c[k + 1].1.length ≤ 1000000000 := hx.1
      have ih := specFiles_l6 hN c hc hb n (k + 1) (by omega) (by omega) (by omega)
      simp (disch := omega) only [dec_t, cond_true, gd_true, Int.toNat_natCast, Option.bind_some, bind_id, nc1, wi_of, specPath_eq hN c[k + 1].1 (by omega), specParent_eq hN c[k + 1].1 hl1, specHome_eq hN c _ (show c.length ≤ 1000000000 by omega), ncp, List.getElem?_eq_getElem h, List.getElem?_eq_getElem (show k < c.length by omega), ih]
      have e3 : homed c c[k + 1] = (homeF c (parF c[k + 1].1) == 0) := rfl
      have e4 : (homeF c (parF c[k + 1].1) != 0) = !(homeF c (parF c[k + 1].1) == 0) := rfl
      have e5 : decide (((c[k + 1].2.2.length : Nat) : Int) > 200) = !decide (c[k + 1].2.2.length ≤ 200) := by rw [← decide_not]; exact decide_eq_decide.2 (by omega)
      have e6 : (c[k + 1].2.2 == []) = decide (c[k + 1].2.2 = []) := beq_dec _ _
      rw [e1, e2]
      simp only [risF, List.all_cons, e3, e4, e5, e6, okOne]
      generalize risF (c[k + 1] :: c.drop (k + 1 + 1)) = b1
      generalize (c.drop (k + 1 + 1)).all _ = b2
      generalize (c.drop (k + 1 + 1)).all _ = b3
      generalize (homeF c (parF c[k + 1].1) == 0) = b4
      generalize decide (c[k + 1].2.2.length ≤ 200) = b5
      generalize decide (c[k + 1].2.2 = []) = b6
      generalize c[k + 1].2.1 = b7
      generalize okPath c[k + 1].1 = b8
      generalize Op.bytesLess c[k].1 c[k + 1].1 = b9
      cases b8 <;> cases b5 <;> cases b7 <;> cases b6 <;> cases b9 <;> cases b4 <;> cases b1 <;> cases b2 <;> cases b3 <;> rfl
    · simp (disch := omega) only [dec_t, dec_f, cond_true, cond_false, gd_true, Bool.and_true, Bool.and_self, Int.toNat_natCast, bind_id, nc1, wi_of, List.drop_of_length_le (show c.length ≤ k + 1 by omega), List.all_nil]
      have : ∃ l, c.drop k = l ∧ l.length ≤ 1 := ⟨_, rfl, by simp; omega⟩
      obtain ⟨l, e, hl⟩ := this
      rw [e]
      match l, hl with
      | [], _ => rfl
      | [_], _ => rfl
theorem specFiles_eq {N : Nat} (hN : 18446744073709551616 ≤ N) (c : List FileT) (hb : bdFileS 1000000000 c) : g_bh N c = some (okFiles c) := by
  have hl : c.length ≤ 1000000000 := hb.1
  unfold g_bh okFiles
  by_cases h12 : c.length ≤ 12
  · simp (disch := omega) only [dec_t, dec_f, cond_false, Bool.true_and]
    have key : g_bh.l6 N N c 0 = some (bif risF c && (c.all okOne && c.all (homed c)) then .inr () else .inl false) := by
      obtain ⟨M, rfl⟩ : ∃ M, N = M + 1 := ⟨N - 1, by omega⟩
      unfold g_bh.l6
      cases hcs : c with
      | nil => rfl
      | cons x xs =>
        have hx : bdFile 1000000000 x := hb.2 x (by rw [hcs]; exact List.mem_cons_self ..)
        have hl1 : x.1.length ≤ 1000000000 := hx.1
        have ih := specFiles_l6 hN c (by omega) hb M 0 (by omega) (by omega) (by omega)
        rw [hcs] at ih hl
        rw [List.drop_zero, List.drop_succ_cons, List.drop_zero] at ih
        have w1 : wi (0 + 1) = ((0 + 1 : Nat) : Int) := rfl
        have e9 : decide ((0 : Int) < ((x :: xs).length : Int)) = true := dec_t (by simp)
        have e10 : (x :: xs)[(0 : Int).toNat]? = some x := rfl
        have e11 : decide ((0 : Int) ≤ 0) = true := rfl
        have e12 : decide ((0 : Int) > 0) = false := rfl
        have e4 : (homeF (x :: xs) (parF x.1) != 0) = !(homeF (x :: xs) (parF x.1) == 0) := rfl
        have e5 : decide ((x.2.2.length : Int) > 200) = !decide (x.2.2.length ≤ 200) := by rw [← decide_not]; exact decide_eq_decide.2 (by omega)
        have e6 : (x.2.2 == []) = decide (x.2.2 = []) := beq_dec _ _
        simp only [e9, e10, e11, e12, w1, cond_true, cond_false, gd_true, Option.bind_some, specPath_eq hN x.1 (by omega), specParent_eq hN x.1 hl1, specHome_eq hN (x :: xs) _ hl, ih, e4, e5, e6, List.all_cons, homed, okOne]
        generalize risF (x :: xs) = b1
        generalize xs.all _ = b2
        generalize xs.all _ = b3
        generalize (homeF (x :: xs) (parF x.1) == 0) = b4
        generalize decide (x.2.2.length ≤ 200) = b5
        generalize decide (x.2.2 = []) = b6
        generalize x.2.1 = b7
        generalize okPath x.1 = b8
        cases b8 <;> cases b5 <;> cases b7 <;> cases b6 <;> cases b4 <;> cases b1 <;> cases b2 <;> cases b3 <;> rfl
    rw [key]
    cases risF c && (c.all okOne && c.all (homed c)) <;> rfl
  · by_cases h4 : c.length ≤ 4096
    · simp (disch := omega) only [dec_t, dec_f, cond_true, cond_false, Bool.false_and]
    · simp (disch := omega) only [dec_t, dec_f, cond_true, Bool.false_and]
theorem implFiles_l2 {N : Nat} (hN : 18446744073709551616 ≤ N) (c : List FileT) (hb : bdFileS 1000000000 c) : ∀ (n k : Nat), c.length ≤ k + n → 0 < n → k + 1 ≤ c.length ∨ k = 0 →
    g_aa.l2 N n c (c.length : Int) ((k + 1 : Nat) : Int) c = some (bif risF (c.drop k) && (c.drop (k + 1)).all okOne then .inr c else .inl false)
  | 0, _, _, h, _ => by omega
  | n + 1, k, hn, _, hk => by
    have hc : c.length ≤ 1000000000 := hb.1
    unfold g_aa.l2
    by_cases h : k + 1 < c.length
    · have e1 : c.drop k = c[k] :: c.drop (k + 1) := drop_get (show k < c.length by omega)
      have e2 : c.drop (k + 1) = c[k + 1] :: c.drop (k + 1 + 1) := drop_get h
      have hx := hb.2 _ (List.getElem_mem h)
      have hl1 : c[k + 1].1.length ≤ 1000000000 := hx.1
      have ih := implFiles_l2 hN c hb n (k + 1) (by omega) (by omega) (by omega)
      simp (disch := omega) only [dec_t, cond_true, gd_true, Int.toNat_natCast, Option.bind_some, bind_id, nc1, wi_of, implPath_eq hN c[k + 1].1 (by omega), ncp, List.getElem?_eq_getElem h, List.getElem?_eq_getElem (show k < c.length by omega), ih, less_or]
      have e5 : decide (((c[k + 1].2.2.length : Nat) : Int) > 200) = !decide (c[k + 1].2.2.length ≤ 200) := by rw [← decide_not]; exact decide_eq_decide.2 (by omega)
      have e6 : (c[k + 1].2.2 == []) = decide (c[k + 1].2.2 = []) := beq_dec _ _
      rw [e1, e2]
      simp only [risF, List.all_cons, e5, e6, okOne]
      generalize risF (c[k + 1] :: c.drop (k + 1 + 1)) = b1
      generalize (c.drop (k + 1 + 1)).all _ = b2
      generalize decide (c[k + 1].2.2.length ≤ 200) = b5
      generalize decide (c[k + 1].2.2 = []) = b6
      generalize c[k + 1].2.1 = b7
      generalize okPath c[k + 1].1 = b8
      generalize Op.bytesLess c[k].1 c[k + 1].1 = b9
      cases b8 <;> cases b5 <;> cases b7 <;> cases b6 <;> cases b9 <;> cases b1 <;> cases b2 <;> rfl
    · simp (disch := omega) only [dec_t, dec_f, cond_true, cond_false, gd_true, Bool.and_true, Int.toNat_natCast, bind_id, nc1, wi_of, List.drop_of_length_le (show c.length ≤ k + 1 by omega), List.all_nil]
      have : ∃ l, c.drop k = l ∧ l.length ≤ 1 := ⟨_, rfl, by simp; omega⟩
      obtain ⟨l, e, hl⟩ := this
      rw [e]
      match l, hl with
      | [], _ => rfl
      | [_], _ => rfl
theorem homedAll_eq {N : Nat} (hN : 18446744073709551616 ≤ N) (c : List FileT) (hr : risF c = true) (hb : bdFileS 1000000000 c) : g_ag N c c = some (c.all (homed c)) := by
  have hc : c.length ≤ 1000000000 := hb.1
  have key : ∀ n c0 c1 (L : List FileT) m, g_bf.l2 N n c0 c1 L m = (idxL (fun e => g_af N e L) n c0 c1 m).bind fun s => alt s (fun y => some (.inl (L, y))) (fun _ => some (.inr L)) := by
    intro n c0 c1 L
    induction n with
    | zero => intro m; rfl
    | succ n ih =>
      intro m
      simp only [g_bf.l2, idxL, ih]
      by_cases q : m < c1
      · by_cases q2 : 0 ≤ m
        · simp only [q, q2, decide_true, cond_true, gd_true]
          cases c0[m.toNat]? with
          | none => rfl
          | some e =>
            rw [Option.bind_some, Option.bind_some]
            cases g_af N e L with
            | none => rfl
            | some b => cases b <;> simp only [Option.bind_some, cond_true, cond_false, bind_id, alt_inl]
        · simp only [q, q2, decide_true, decide_false, cond_true, gd_false]; rfl
      · simp only [q, decide_false, cond_false]; rfl
  unfold g_ag g_bd g_bf
  rw [key]
  have hp : ∀ x ∈ c, (fun e => g_af N e c) x = some (!homed c x) := by
    intro x hx
    have := (hb.2 x hx).1
    show g_af N x c = some (!homed c x)
    unfold g_af g_ab
    rw [parentCode_eq hN c x.1 hr hc this]; rfl
  rw [show (0 : Int) = ((0 : Nat) : Int) from rfl, idxL_eq N c 0 hp (by omega) (by omega) (by omega) (by omega), List.drop_zero, Option.bind_some]
  have h2 := idxF_any (fun x => !homed c x) c 0
  rw [List.all_eq_not_any_not, ← h2]
  cases idxF (fun x => !homed c x) c 0 <;> rfl
theorem implFiles_eq {N : Nat} (hN : 18446744073709551616 ≤ N) (c : List FileT) (hb : bdFileS 1000000000 c) : g_aa N c = some (okFiles c) := by
  have hl : c.length ≤ 1000000000 := hb.1
  unfold g_aa okFiles
  have key : g_aa.l2 N N c (c.length : Int) 0 c = some (bif risF c && c.all okOne then .inr c else .inl false) := by
    obtain ⟨M, rfl⟩ : ∃ M, N = M + 1 := ⟨N - 1, by omega⟩
    unfold g_aa.l2
    cases hcs : c with
    | nil => rfl
    | cons x xs =>
      have hx : bdFile 1000000000 x := hb.2 x (by rw [hcs]; exact List.mem_cons_self ..)
      have hl1 : x.1.length ≤ 1000000000 := hx.1
      have ih := implFiles_l2 hN c hb M 0 (by omega) (by omega) (by omega)
      rw [hcs] at ih hl
      rw [List.drop_zero, List.drop_succ_cons, List.drop_zero] at ih
      have w1 : wi (0 + 1) = ((0 + 1 : Nat) : Int) := rfl
      have e9 : decide ((0 : Int) < ((x :: xs).length : Int)) = true := dec_t (by simp)
      have e10 : (x :: xs)[(0 : Int).toNat]? = some x := rfl
      have e11 : decide ((0 : Int) ≤ 0) = true := rfl
      have e12 : decide ((0 : Int) > 0) = false := rfl
      have e5 : decide ((x.2.2.length : Int) > 200) = !decide (x.2.2.length ≤ 200) := by rw [← decide_not]; exact decide_eq_decide.2 (by omega)
      have e6 : (x.2.2 == []) = decide (x.2.2 = []) := beq_dec _ _
      simp only [e9, e10, e11, e12, w1, cond_true, cond_false, gd_true, Option.bind_some, implPath_eq hN x.1 (by omega), ih, e5, e6, List.all_cons, okOne]
      generalize risF (x :: xs) = b1
      generalize xs.all _ = b2
      generalize decide (x.2.2.length ≤ 200) = b5
      generalize decide (x.2.2 = []) = b6
      generalize x.2.1 = b7
      generalize okPath x.1 = b8
      cases b8 <;> cases b5 <;> cases b7 <;> cases b6 <;> cases b1 <;> cases b2 <;> rfl
  rw [key, Option.bind_some]
  cases hr : risF c with
  | false => simp only [Bool.false_and, cond_false, alt_inl, Bool.and_false]
  | true =>
    cases c.all okOne with
    | false => simp only [Bool.and_false, cond_false, alt_inl, Bool.false_and]
    | true =>
      simp only [Bool.and_true, Bool.true_and, cond_true, alt_inr]
      by_cases h : c.length ≤ 12
      · rw [dec_t (show (c.length : Int) ≤ 12 by omega), cond_true, homedAll_eq hN c hr hb, dec_t h]; rfl
      · rw [dec_f (show ¬ (c.length : Int) ≤ 12 by omega), cond_false, dec_f h]; rfl
/-! ### The text -/
def lineF (f : FileT) : List UInt8 := bif f.2.1 then f.1 ++ [47, 10] else f.1 ++ (32 :: (f.2.2 ++ [10]))
def textF (c : List FileT) : List UInt8 := c.flatMap lineF
theorem okOne_len {f : FileT} (h : okOne f = true) : f.1.length ≤ 40 ∧ f.2.2.length ≤ 200 := by
  unfold okOne okPath at h
  simp only [Bool.and_eq_true, decide_eq_true_eq] at h
  exact ⟨h.1.1, h.2.1⟩
theorem l14Text_l3 (N : Nat) (c : List FileT) (hc : c.length ≤ 12) (ho : ∀ f ∈ c, okOne f = true) : ∀ (n k : Nat) (acc : List UInt8), c.length ≤ k + n - 1 → 0 < n → k ≤ c.length → acc.length ≤ 1000 * k →
    g_bs.l3 N n c acc (k : Int) = some (acc ++ textF (c.drop k))
  | 0, _, _, _, h, _, _ => by omega
  | n + 1, k, acc, hn, _, hk, ha => by
    unfold g_bs.l3
    by_cases h : k < c.length
    · obtain ⟨l1, l2⟩ := okOne_len (ho _ (List.getElem_mem h))
      have e0 : textF (c.drop k) = lineF c[k] ++ textF (c.drop (k + 1)) := by rw [drop_get h]; rfl
      rw [e0]
      unfold lineF
      cases hd : c[k].2.1 with
      | true =>
        simp (disch := omega) only [dec_t, cond_true, gd_true, Int.toNat_natCast, get_t, Option.bind_some, bind_id, nc1, wi_of, List.length_append, List.length_cons, List.length_nil, hd]
        rw [l14Text_l3 N c hc ho n (k + 1) _ (by omega) (by omega) (by omega) (by simp; omega)]
        simp
      | false =>
        simp (disch := omega) only [dec_t, cond_true, cond_false, gd_true, Int.toNat_natCast, get_t, Option.bind_some, bind_id, nc1, wi_of, List.length_append, List.length_cons, List.length_nil, hd]
        rw [l14Text_l3 N c hc ho n (k + 1) _ (by omega) (by omega) (by omega) (by simp; omega)]
        simp
    · simp (disch := omega) only [dec_t, dec_f, cond_false, gd_true, Int.toNat_natCast, bind_id, nc1, wi_of, List.length_append, List.length_cons, List.length_nil, List.drop_of_length_le]; simp [textF]
theorem specText_eq {N : Nat} (hN : 18446744073709551616 ≤ N) (c : List FileT) (hc : c.length ≤ 12) (ho : ∀ f ∈ c, okOne f = true) : g_bs N c = some (textF c) := by
  unfold g_bs
  have key := l14Text_l3 N c hc ho N 0 [] (by omega) (by omega) (by omega) (by simp)
  rw [Int.natCast_zero, List.drop_zero] at key
  rw [key]; rfl
theorem filesText_l3 (N : Nat) (c : List FileT) (hc : c.length ≤ 12) (ho : ∀ f ∈ c, okOne f = true) : ∀ (n k : Nat) (acc : List UInt8), c.length ≤ k + n - 1 → 0 < n → k ≤ c.length → acc.length ≤ 1000 * k →
    g_aj.l3 N n c (c.length : Int) acc (k : Int) = some (acc ++ textF (c.drop k))
  | 0, _, _, _, h, _, _ => by omega
  | n + 1, k, acc, hn, _, hk, ha => by
    unfold g_aj.l3
    by_cases h : k < c.length
    · obtain ⟨l1, l2⟩ := okOne_len (ho _ (List.getElem_mem h))
      have e0 : textF (c.drop k) = lineF c[k] ++ textF (c.drop (k + 1)) := by rw [drop_get h]; rfl
      rw [e0]
      unfold lineF
      cases hd : c[k].2.1 with
      | true =>
        simp (disch := omega) only [dec_t, cond_true, gd_true, Int.toNat_natCast, get_t, Option.bind_some, bind_id, nc1, wi_of, List.length_append, List.length_cons, List.length_nil, hd]
        rw [filesText_l3 N c hc ho n (k + 1) _ (by omega) (by omega) (by omega) (by simp; omega)]
        simp
      | false =>
        simp (disch := omega) only [dec_t, cond_true, cond_false, gd_true, Int.toNat_natCast, get_t, Option.bind_some, bind_id, nc1, wi_of, List.length_append, List.length_cons, List.length_nil, hd]
        rw [filesText_l3 N c hc ho n (k + 1) _ (by omega) (by omega) (by omega) (by simp; omega)]
        simp
    · simp (disch := omega) only [dec_t, dec_f, cond_false, gd_true, Int.toNat_natCast, bind_id, nc1, wi_of, List.length_append, List.length_cons, List.length_nil, List.drop_of_length_le]; simp [textF]
theorem implText_eq {N : Nat} (hN : 18446744073709551616 ≤ N) (c : List FileT) (hc : c.length ≤ 12) (ho : ∀ f ∈ c, okOne f = true) : g_aj N c = some (textF c) := by
  unfold g_aj
  have key := filesText_l3 N c hc ho N 0 [] (by omega) (by omega) (by omega) (by simp)
  rw [Int.natCast_zero, List.drop_zero] at key
  rw [key]; rfl
def filesTextF (c : List FileT) : List UInt8 × Int := bif decide (c.length > 4096) then ([], 2) else bif okFiles c then (textF c, 0) else ([], 1)
theorem okFiles_parts {c : List FileT} (h : okFiles c = true) : c.length ≤ 12 ∧ risF c = true ∧ (∀ f ∈ c, okOne f = true) ∧ ∀ f ∈ c, homed c f = true := by
  unfold okFiles at h
  simp only [Bool.and_eq_true, decide_eq_true_eq, List.all_eq_true] at h
  exact ⟨h.1, h.2.1, h.2.2.1, h.2.2.2⟩
theorem specFilesText_eq {N : Nat} (hN : 18446744073709551616 ≤ N) (c : List FileT) (hb : bdFileS 1000000000 c) : g_bi N c = some (filesTextF c) := by
  have hl : c.length ≤ 1000000000 := hb.1
  unfold g_bi filesTextF
  by_cases h : c.length > 4096
  · rw [dec_t (show (c.length : Int) > 4096 by omega), dec_t h]; rfl
  · rw [dec_f (show ¬ (c.length : Int) > 4096 by omega), dec_f h, cond_false, cond_false, specFiles_eq hN c hb, Option.bind_some]
    cases ho : okFiles c with
    | false => rfl
    | true =>
      obtain ⟨h1, _, h2, _⟩ := okFiles_parts ho
      rw [specText_eq hN c h1 h2]; rfl
theorem implFilesText_eq {N : Nat} (hN : 18446744073709551616 ≤ N) (c : List FileT) (hb : bdFileS 1000000000 c) : g_ac N c = some (filesTextF c) := by
  have hl : c.length ≤ 1000000000 := hb.1
  unfold g_ac filesTextF g_am
  rw [Option.bind_some]
  by_cases h : c.length > 4096
  · rw [dec_t (show (c.length : Int) > 4096 by omega), dec_t h]; rfl
  · rw [dec_f (show ¬ (c.length : Int) > 4096 by omega), dec_f h, cond_false, cond_false, implFiles_eq hN c hb, Option.bind_some]
    cases ho : okFiles c with
    | false => rfl
    | true =>
      obtain ⟨h1, _, h2, _⟩ := okFiles_parts ho
      rw [implText_eq hN c h1 h2]; rfl
end Go.Vm
/- The law: the text of files, by the program and by the reference. -/
set_option linter.unusedVariables false
set_option maxRecDepth 100000
namespace Go.Vm
theorem law_FnExactFilesText_at {N : Nat} (hN : 18446744073709551616 ≤ N) (c : List FileT) (h0 : bdFileS 9223372036854775807 c) : g_av N c = some true := by
  unfold g_av
  obtain ⟨r, e1, h1⟩ := szFileS_eq hN c 1048576 (by omega) (by omega) h0
  rw [e1, Option.bind_some]
  by_cases q : r < 0
  · rw [dec_t q]; rfl
  · have hb : bdFileS 1000000000 c := bdFileS_mono (by omega) (h1 (by omega)).2
    rw [dec_f q, cond_false]
    simp only [toFileS_eq hN c hb, Option.bind_some, specFilesText_eq hN c hb, implFilesText_eq hN c hb, eqFileS_eq hN c c hb, beq_self_eq_true, Bool.not_true, cond_false, decide_true]
    rw [bne_fi rfl]; rfl
theorem law_FnExactFilesText (c : List FileT) (h1 : InR (.sl (.st (.pair .str (.pair .bool .str)))) c) : ∃ N, g_av N c = some true :=
  ⟨18446744073709551616, law_FnExactFilesText_at (Nat.le_refl _) c ⟨h1.1, fun y hy => ⟨(h1.2 y hy).1, (h1.2 y hy).2.2⟩⟩⟩
end Go.Vm

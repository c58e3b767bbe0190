/- A part of the proof: an abstract machine, mirrors and their laws, one text behind the other. -/
import Derived.Test.YtlndkggjgacclaaDoorVC4
/- The laws' own helpers: marks, sizes. -/
set_option linter.unusedVariables false
set_option maxRecDepth 100000
namespace Go.Vm
theorem markText_some {N : Nat} (hN : 18446744073709551616 ≤ N) (k : Nat) (hk : k ≤ 9000000000000000000) : ∃ t, g_bi N (k : Int) = some t := by
  -- twenty rounds are enough
  unfold g_bi
  by_cases h : k = 0
  · subst h; exact ⟨_, by simp; rfl⟩
  · have key : ∀ (n k : Nat) (l : List UInt8), k < 10 ^ 20 → 20 < n → k ≤ 9223372036854775000 → l.length + 20 ≤ 9223372036854775807 → ∃ t, g_bi.l4 N n (k : Int) l = some t ∧ t.length ≤ l.length + 20 := by
      suffices H : ∀ (d n k : Nat) (l : List UInt8), k < 10 ^ d → d < n → k ≤ 9223372036854775000 → l.length + d ≤ 9223372036854775807 → ∃ t, g_bi.l4 N n (k : Int) l = some t ∧ t.length ≤ l.length + d from fun n k l h1 h2 h3 h4 => H 20 n k l h1 h2 h3 h4
      intro d
      induction d with
      | zero =>
        intro n k l h1 h2 h3 h4
        have : k = 0 := by simpa using h1
        subst this
        cases n with
        | zero => omega
        | succ n => exact ⟨l, by unfold g_bi.l4; simp, by omega⟩
      | succ d ih =>
        intro n k l h1 h2 h3 h4
        cases n with
        | zero => omega
        | succ n =>
          unfold g_bi.l4
          by_cases h : k = 0
          · subst h; exact ⟨l, by simp, by omega⟩
          · have e2 : (k : Int).tdiv 10 = ((k / 10 : Nat) : Int) := rfl
            have h10 : k / 10 < 10 ^ d := by rw [Nat.pow_succ] at h1; omega
            simp (disch := omega) only [dec_t, cond_true, gd_true, bind_id, wi_of, List.length_cons, List.length_nil, e2, List.singleton_append]
            obtain ⟨t, h5, h6⟩ := ih n (k / 10) (wb (wi (48 + (k : Int).tmod 10)) :: l) h10 (by omega) (by omega) (by simp; omega)
            exact ⟨t, h5, by simp at h6; omega⟩
    obtain ⟨t, h1, h2⟩ := key N k [] (by have : (10 : Nat) ^ 20 = 100000000000000000000 := by decide
                                         omega) (by omega) (by omega) (by simp)
    refine ⟨109 :: t, ?_⟩
    simp only [List.length_nil] at h2
    simp (disch := omega) only [dec_t, dec_f, cond_false, gd_true, Option.bind_some, h1, List.singleton_append]
def mtx (N m : Nat) : List UInt8 := (g_bi N (m : Int)).getD []
theorem u8_dec (a b : UInt8) : decide ((a.toNat : Int) = (b.toNat : Int)) = decide (a = b) := by
  by_cases h : a = b
  · subst h; simp
  · rw [decide_eq_false h, decide_eq_false]
    intro e
    exact h (UInt8.toNat_inj.1 (by omega))
end Go.Vm
/- The laws' own helpers, printed by a program of ours. -/
set_option linter.unusedVariables false
set_option maxRecDepth 100000
namespace Go.Vm
abbrev bdFile (n : Nat) (x : List UInt8 × Bool × List UInt8) : Prop := (x.1).length ≤ n ∧ (x.2.2).length ≤ n
abbrev bdFileS (n : Nat) (x : List (List UInt8 × Bool × List UInt8)) : Prop := x.length ≤ n ∧ ∀ y ∈ x, bdFile n y
theorem eqFile_eq {N : Nat} (hN : 18446744073709551616 ≤ N) (x y : List UInt8 × Bool × List UInt8) : g_bd N x y = some (decide (x = y)) := by
  obtain ⟨x0, x1, x2⟩ := x
  obtain ⟨y0, y1, y2⟩ := y
  simp only [g_bd, beq_dec, Prod.mk.injEq]
  by_cases h0 : x0 = y0 <;> by_cases h1 : x1 = y1 <;> by_cases h2 : x2 = y2 <;> simp only [h0, h1, h2, decide_true, decide_false, Bool.not_true, Bool.not_false, cond_true, cond_false, and_true, and_false, and_self]
theorem eqFileS_l (N n : Nat) (c d : List (List UInt8 × Bool × List UInt8)) (k : Int) : g_be.l4 N n c d k = eqL (g_bd N) n c d k := by
  induction n generalizing k with
  | zero => rfl
  | succ n ih => simp only [g_be.l4, eqL, ih]
theorem eqFileS_eq {N : Nat} (hN : 18446744073709551616 ≤ N) (x y : List (List UInt8 × Bool × List UInt8)) (h : bdFileS 1000000000 x) : g_be N x y = some (decide (x = y)) := by
  have hl : x.length ≤ 1000000000 := h.1
  unfold g_be
  simp only [eqFileS_l]
  exact eqS_eq x y (fun z hz y => eqFile_eq hN z y) (by omega) (by omega)
end Go.Vm
/- Files: found by both; right files; the text of files. -/
set_option linter.unusedVariables false
set_option maxRecDepth 100000
namespace Go.Vm
/-! ### Rising paths, and one of them -/
def risF : List FileT → Bool
  | a :: b :: l => Op.bytesLess a.1 b.1 && risF (b :: l)
  | _ => true
def posF (v : List UInt8) : List FileT → Nat
  | [] => 0
  | x :: xs => if Op.bytesLess x.1 v then posF v xs + 1 else 0
def fdF (v : List UInt8) : List FileT → Nat → Option Nat
  | [], _ => none
  | x :: xs, k => if x.1 = v then some k else fdF v xs (k + 1)
theorem risF_tail {a : FileT} {l : List FileT} (h : risF (a :: l) = true) : risF l = true := by
  cases l with
  | nil => rfl
  | cons b l => simp only [risF, Bool.and_eq_true] at h; exact h.2
theorem risF_head : ∀ {a : FileT} {l : List FileT}, risF (a :: l) = true → ∀ x ∈ l, Op.bytesLess a.1 x.1 = true
  | a, b :: l, h, x, hx => by
    simp only [risF, Bool.and_eq_true] at h
    rcases List.mem_cons.1 hx with rfl | hx
    · exact h.1
    · exact less_trans h.1 (risF_head h.2 x hx)
theorem posF_le (v : List UInt8) : ∀ l, posF v l ≤ l.length
  | [] => Nat.le_refl _
  | x :: xs => by unfold posF; split <;> simp [posF_le v xs]
theorem posF_lt (v : List UInt8) : ∀ {l : List FileT}, risF l = true → ∀ (h : Nat) (hh : h < l.length), (Op.bytesLess l[h].1 v = true ↔ h < posF v l)
  | x :: xs, hr, 0, hh => by
    unfold posF
    by_cases q : Op.bytesLess x.1 v = true <;> simp [q]
  | x :: xs, hr, h + 1, hh => by
    unfold posF
    have ih := posF_lt v (risF_tail hr) h (by simpa using hh)
    by_cases q : Op.bytesLess x.1 v = true
    · simp only [q, if_true, List.getElem_cons_succ, Nat.add_lt_add_iff_right]; exact ih
    · rw [if_neg q]
      constructor
      · intro k
        exact absurd (less_trans (risF_head hr _ (List.getElem_mem (by simpa using hh))) k) q
      · intro k; omega
theorem fdF_pos (v : List UInt8) : ∀ {l : List FileT} (k : Nat), risF l = true → fdF v l k = (match l[posF v l]? with | some x => if x.1 = v then some (k + posF v l) else none | none => none)
  | [], k, _ => rfl
  | x :: xs, k, hr => by
    unfold fdF posF
    by_cases q : Op.bytesLess x.1 v = true
    · have : x.1 ≠ v := fun e => by rw [e, less_irrefl] at q; cases q
      rw [if_neg this, if_pos q, fdF_pos v (k + 1) (risF_tail hr), List.getElem?_cons_succ]
      cases xs[posF v xs]? with
      | none => rfl
      | some y => simp only [show k + 1 + posF v xs = k + (posF v xs + 1) by omega]
    · rw [if_neg q, List.getElem?_cons_zero]
      by_cases e : x.1 = v
      · simp [e]
      · simp only [e, if_false]
        have l1 : Op.bytesLess v x.1 = true := by
          have := less_or x.1 v
          rw [Bool.not_eq_true] at q
          rw [q, Bool.false_or] at this
          have hb : (x.1 == v) = false := by simp [e]
          rw [hb] at this
          cases h : Op.bytesLess v x.1
          · rw [h] at this; cases this
          · rfl
        have : ∀ (ys : List FileT) (j : Nat), (∀ y ∈ ys, Op.bytesLess x.1 y.1 = true) → fdF v ys j = none := by
          intro ys
          induction ys with
          | nil => intro _ _; rfl
          | cons y ys ih =>
            intro j h
            have hy := less_trans l1 (h y (List.mem_cons_self ..))
            have : y.1 ≠ v := fun e => by rw [e, less_irrefl] at hy; cases hy
            rw [fdF, if_neg this]
            exact ih (j + 1) fun z hz => h z (List.mem_cons_of_mem _ hz)
        exact this xs (k + 1) (risF_head hr)
theorem l11Find_l2 (N : Nat) : ∀ (n k : Nat) (c : List FileT) (v : List UInt8), c.length ≤ k + n - 1 → 0 < n → k ≤ c.length → c.length ≤ 1000000000 →
    g_cc.l2 N n c v (k : Int) = some (match fdF v (c.drop k) k with | some j => .inl (j : Int) | none => .inr ())
  | 0, _, _, _, _, h, _, _ => by omega
  | n + 1, k, c, v, hn, _, hk, hc => by
    unfold g_cc.l2
    by_cases h : k < c.length
    · simp (disch := omega) only [dec_t, cond_true, gd_true, Int.toNat_natCast, get_t, Option.bind_some, bind_id, nc1, wi_of, drop_get h, fdF]
      by_cases q : c[k].1 = v
      · have e : (c[k].1 == v) = true := by simp [q]
        rw [e]
        simp only [q, cond_true, if_true]
      · have e : (c[k].1 == v) = false := by simp [q]
        simp only [e, q, cond_false, if_false]
        exact l11Find_l2 N n (k + 1) c v (by omega) (by omega) (by omega) hc
    · simp (disch := omega) only [dec_t, dec_f, cond_false, gd_true, Int.toNat_natCast, bind_id, nc1, wi_of, List.drop_of_length_le, fdF]
theorem fdF_lt (v : List UInt8) : ∀ (l : List FileT) (k j : Nat), fdF v l k = some j → k ≤ j ∧ j < k + l.length
  | [], _, _, h => by cases h
  | x :: xs, k, j, h => by
    unfold fdF at h
    split at h
    · cases h; simp
    · have := fdF_lt v xs (k + 1) j h; simp; omega
theorem specFind_eq {N : Nat} (hN : 18446744073709551616 ≤ N) (c : List FileT) (v : List UInt8) (hc : c.length ≤ 1000000000) : g_cc N c v = some (match fdF v c 0 with | some j => (j : Int) | none => -1) := by
  unfold g_cc
  have key := l11Find_l2 N N 0 c v (by omega) (by omega) (by omega) hc
  rw [Int.natCast_zero, List.drop_zero] at key
  rw [key]
  cases fdF v c 0 <;> rfl
def homeF (c : List FileT) (p : List UInt8) : Int := if p = [] then 0 else match fdF p c 0 with | some k => (match c[k]? with | some f => bif f.2.1 then 0 else 17 | none => 5) | none => 5
theorem specHome_eq {N : Nat} (hN : 18446744073709551616 ≤ N) (c : List FileT) (p : List UInt8) (hc : c.length ≤ 1000000000) : g_cd N c p = some (homeF c p) := by
  unfold g_cd homeF
  by_cases q : p = []
  · have e : (p == []) = true := by simp [q]
    rw [e, cond_true, if_pos q]
  · have e : (p == []) = false := by simp [q]
    rw [e, cond_false, if_neg q, specFind_eq hN c p hc, Option.bind_some]
    cases h : fdF p c 0 with
    | none => rfl
    | some k =>
      have hk := (fdF_lt p c 0 k h).2
      simp (disch := omega) only [dec_t, dec_f, cond_false, gd_true, Int.toNat_natCast, Option.bind_some, List.getElem?_eq_getElem (show k < c.length by omega)]
      cases c[k].2.1 <;> rfl
theorem find_l3 (N : Nat) (c : List FileT) (v : List UInt8) (hr : risF c = true) (hc : c.length ≤ 1000000000) : ∀ (n i j : Nat), j - i < n → i ≤ posF v c → posF v c ≤ j → j ≤ c.length → ∀ z : Int,
    g_bk.l3 N n c v z (i : Int) (j : Int) = some (posF v c : Int)
  | 0, _, _, h, _, _, _, _ => by omega
  | n + 1, i, j, hn, hi, hj, hl, z => by
    unfold g_bk.l3
    by_cases h : i < j
    · have e1 : wi (shr (w64 (wi ((i : Int) + (j : Int)))) 1) = (((i + j) / 2 : Nat) : Int) := by
        have a1 : wi ((i : Int) + (j : Int)) = (i : Int) + (j : Int) := wi_of (by omega) (by omega)
        have a2 : w64 ((i : Int) + (j : Int)) = (i : Int) + (j : Int) := by
          unfold w64 IntKind.wrap; simp [IntKind.bits, IntKind.signed]; omega
        rw [a1, a2, shr_eq, show (2 : Int) ^ 1 = 2 by decide, wi_of (by omega) (by omega)]
        omega
      have hm : (i + j) / 2 < c.length := by omega
      rw [dec_t (by omega), cond_true, e1, dec_t (by omega), gd_true, Int.toNat_natCast, get_t hm, Option.bind_some]
      unfold g_am g_ch g_aw
      rw [Option.bind_some, Option.bind_some, Option.bind_some, cmp_neg]
      have key := posF_lt v hr _ hm
      by_cases q : Op.bytesLess c[(i + j) / 2].1 v = true
      · have hq := key.1 q
        rw [q, cond_true, nc1, wi_of (by omega) (by omega)]
        dsimp only
        rw [find_l3 N c v hr hc n ((i + j) / 2 + 1) j (by omega) (by omega) hj hl]; rfl
      · have hq : ¬ (i + j) / 2 < posF v c := fun h => q (key.2 h)
        rw [Bool.not_eq_true] at q
        rw [q, cond_false, find_l3 N c v hr hc n i ((i + j) / 2) (by omega) hi (by omega) (by omega)]; rfl
    · rw [dec_f (by omega), cond_false]
      congr 1; omega
theorem implFind_eq {N : Nat} (hN : 18446744073709551616 ≤ N) (c : List FileT) (v : List UInt8) (hr : risF c = true) (hc : c.length ≤ 1000000000) :
    g_al N c v = some ((posF v c : Int), match c[posF v c]? with | some x => decide (x.1 = v) | none => false) := by
  unfold g_al g_bk
  have key := find_l3 N c v hr hc N 0 c.length (by omega) (by omega) (posF_le v c) (Nat.le_refl _) (c.length : Int)
  rw [Int.natCast_zero] at key
  rw [key, Option.bind_some, bind_id]
  by_cases h : posF v c < c.length
  · simp (disch := omega) only [dec_t, cond_true, gd_true, Int.toNat_natCast, Option.bind_some, List.getElem?_eq_getElem h]
    unfold g_am g_ch g_aw
    simp only [Option.bind_some, cmp_zero]
  · rw [dec_f (by omega), cond_false, List.getElem?_eq_none (by omega)]
theorem parentCode_eq {N : Nat} (hN : 18446744073709551616 ≤ N) (c : List FileT) (p : List UInt8) (hr : risF c = true) (hc : c.length ≤ 1000000000) (hp : p.length ≤ 1000000000) : g_ar N c p = some (homeF c (parF p)) := by
  unfold g_ar homeF
  rw [implParent_eq hN p hp, Option.bind_some, implFind_eq hN c _ hr hc, Option.bind_some, fdF_pos (parF p) 0 hr]
  generalize parF p = v
  by_cases q : v = []
  · have e : (v == []) = true := by simp [q]
    rw [e, cond_true, if_pos q]
  · have e : (v == []) = false := by simp [q]
    rw [e, cond_false, if_neg q]
    by_cases h : posF v c < c.length
    · simp only [List.getElem?_eq_getElem h]
      by_cases w : c[posF v c].1 = v
      · simp (disch := omega) only [dec_t, decide_true, cond_false, gd_true, Bool.not_true, Int.toNat_natCast, Option.bind_some, w, if_true, Nat.zero_add, List.getElem?_eq_getElem h]
        cases c[posF v c].2.1 <;> rfl
      · simp only [w, decide_false, Bool.not_false, cond_true, if_false]
    · simp only [List.getElem?_eq_none (show c.length ≤ posF v c by omega), Bool.not_false, cond_true]
/-! ### Right files -/
def okOne (f : FileT) : Bool := okPath f.1 && (decide (f.2.2.length ≤ 200) && (!f.2.1 || decide (f.2.2 = [])))
def homed (c : List FileT) (f : FileT) : Bool := homeF c (parF f.1) == 0
def okFiles (c : List FileT) : Bool := decide (c.length ≤ 12) && (risF c && (c.all okOne && c.all (homed c)))
theorem specFiles_l6 {N : Nat} (hN : 18446744073709551616 ≤ N) (c : List FileT) (hc : c.length ≤ 1000000) (hb : bdFileS 1000000000 c) : ∀ (n k : Nat), c.length ≤ k + n → 0 < n → k + 1 ≤ c.length ∨ k = 0 →
    g_br.l6 N n c ((k + 1 : Nat) : Int) = some (bif risF (c.drop k) && ((c.drop (k + 1)).all okOne && (c.drop (k + 1)).all (homed c)) then .inr () else .inl false)
  | 0, _, _, h, _ => by omega
  | n + 1, k, hn, _, hk => by
    unfold g_br.l6
    by_cases h : k + 1 < c.length
    · have e1 : c.drop k = c[k] :: c.drop (k + 1) := drop_get (show k < c.length by omega)
      have e2 : c.drop (k + 1) = c[k + 1] :: c.drop (k + 1 + 1) := drop_get h
      have hx := hb.2 _ (List.getElem_mem h)
      have hl1 : c[k + 1].1.length ≤ 1000000000 := hx.1
      have ih := specFiles_l6 hN c hc hb n (k + 1) (by omega) (by omega) (by omega)
      simp (disch := omega) only [dec_t, cond_true, gd_true, Int.toNat_natCast, Option.bind_some, bind_id, nc1, wi_of, specPath_eq hN c[k + 1].1 (by omega), specParent_eq hN c[k + 1].1 hl1, specHome_eq hN c _ (show c.length ≤ 1000000000 by omega), ncp, List.getElem?_eq_getElem h, List.getElem?_eq_getElem (show k < c.length by omega), ih]
      have e3 : homed c c[k + 1] = (homeF c (parF c[k + 1].1) == 0) := rfl
      have e4 : (homeF c (parF c[k + 1].1) != 0) = !(homeF c (parF c[k + 1].1) == 0) := rfl
      have e5 : decide (((c[k + 1].2.2.length : Nat) : Int) > 200) = !decide (c[k + 1].2.2.length ≤ 200) := by rw [← decide_not]; exact decide_eq_decide.2 (by omega)
      have e6 : (c[k + 1].2.2 == []) = decide (c[k + 1].2.2 = []) := beq_dec _ _
      rw [e1, e2]
      simp only [risF, List.all_cons, e3, e4, e5, e6, okOne]
      generalize risF (c[k + 1] :: c.drop (k + 1 + 1)) = b1
      generalize (c.drop (k + 1 + 1)).all _ = b2
      generalize (c.drop (k + 1 + 1)).all _ = b3
      generalize (homeF c (parF c[k + 1].1) == 0) = b4
      generalize decide (c[k + 1].2.2.length ≤ 200) = b5
      generalize decide (c[k + 1].2.2 = []) = b6
      generalize c[k + 1].2.1 = b7
      generalize okPath c[k + 1].1 = b8
      generalize Op.bytesLess c[k].1 c[k + 1].1 = b9
      cases b8 <;> cases b5 <;> cases b7 <;> cases b6 <;> cases b9 <;> cases b4 <;> cases b1 <;> cases b2 <;> cases b3 <;> rfl
    · simp (disch := omega) only [dec_t, dec_f, cond_true, cond_false, gd_true, Bool.and_true, Bool.and_self, Int.toNat_natCast, bind_id, nc1, wi_of, List.drop_of_length_le (show c.length ≤ k + 1 by omega), List.all_nil]
      have : ∃ l, c.drop k = l ∧ l.length ≤ 1 := ⟨_, rfl, by simp; omega⟩
      obtain ⟨l, e, hl⟩ := this
      rw [e]
      match l, hl with
      | [], _ => rfl
      | [_], _ => rfl
theorem specFiles_eq {N : Nat} (hN : 18446744073709551616 ≤ N) (c : List FileT) (hb : bdFileS 1000000000 c) : g_br N c = some (okFiles c) := by
  have hl : c.length ≤ 1000000000 := hb.1
  unfold g_br okFiles
  by_cases h12 : c.length ≤ 12
  · simp (disch := omega) only [dec_t, dec_f, cond_false, Bool.true_and]
    have key : g_br.l6 N N c 0 = some (bif risF c && (c.all okOne && c.all (homed c)) then .inr () else .inl false) := by
      obtain ⟨M, rfl⟩ : ∃ M, N = M + 1 := ⟨N - 1, by omega⟩
      unfold g_br.l6
      cases hcs : c with
      | nil => rfl
      | cons x xs =>
        have hx : bdFile 1000000000 x := hb.2 x (by rw [hcs]; exact List.mem_cons_self ..)
        have hl1 : x.1.length ≤ 1000000000 := hx.1
        have ih := specFiles_l6 hN c (by omega) hb M 0 (by omega) (by omega) (by omega)
        rw [hcs] at ih hl
        rw [List.drop_zero, List.drop_succ_cons, List.drop_zero] at ih
        have w1 : wi (0 + 1) = ((0 + 1 : Nat) : Int) := rfl
        have e9 : decide ((0 : Int) < ((x :: xs).length : Int)) = true := dec_t (by simp)
        have e10 : (x :: xs)[(0 : Int).toNat]? = some x := rfl
        have e11 : decide ((0 : Int) ≤ 0) = true := rfl
        have e12 : decide ((0 : Int) > 0) = false := rfl
        have e4 : (homeF (x :: xs) (parF x.1) != 0) = !(homeF (x :: xs) (parF x.1) == 0) := rfl
        have e5 : decide ((x.2.2.length : Int) > 200) = !decide (x.2.2.length ≤ 200) := by rw [← decide_not]; exact decide_eq_decide.2 (by omega)
        have e6 : (x.2.2 == []) = decide (x.2.2 = []) := beq_dec _ _
        simp only [e9, e10, e11, e12, w1, cond_true, cond_false, gd_true, Option.bind_some, specPath_eq hN x.1 (by omega), specParent_eq hN x.1 hl1, specHome_eq hN (x :: xs) _ hl, ih, e4, e5, e6, List.all_cons, homed, okOne]
        generalize risF (x :: xs) = b1
        generalize xs.all _ = b2
        generalize xs.all _ = b3
        generalize (homeF (x :: xs) (parF x.1) == 0) = b4
        generalize decide (x.2.2.length ≤ 200) = b5
        generalize decide (x.2.2 = []) = b6
        generalize x.2.1 = b7
        generalize okPath x.1 = b8
        cases b8 <;> cases b5 <;> cases b7 <;> cases b6 <;> cases b4 <;> cases b1 <;> cases b2 <;> cases b3 <;> rfl
    rw [key]
    cases risF c && (c.all okOne && c.all (homed c)) <;> rfl
  · by_cases h4 : c.length ≤ 4096
    · simp (disch := omega) only [dec_t, dec_f, cond_true, cond_false, Bool.false_and]
    · simp (disch := omega) only [dec_t, dec_f, cond_true, Bool.false_and]
theorem implFiles_l2 {N : Nat} (hN : 18446744073709551616 ≤ N) (c : List FileT) (hb : bdFileS 1000000000 c) : ∀ (n k : Nat), c.length ≤ k + n → 0 < n → k + 1 ≤ c.length ∨ k = 0 →
    g_aa.l2 N n c (c.length : Int) ((k + 1 : Nat) : Int) c = some (bif risF (c.drop k) && (c.drop (k + 1)).all okOne then .inr c else .inl false)
  | 0, _, _, h, _ => by omega
  | n + 1, k, hn, _, hk => by
    have hc : c.length ≤ 1000000000 := hb.1
    unfold g_aa.l2
    by_cases h : k + 1 < c.length
    · have e1 : c.drop k = c[k] :: c.drop (k + 1) := drop_get (show k < c.length by omega)
      have e2 : c.drop (k + 1) = c[k + 1] :: c.drop (k + 1 + 1) := drop_get h
      have hx := hb.2 _ (List.getElem_mem h)
      have hl1 : c[k + 1].1.length ≤ 1000000000 := hx.1
      have ih := implFiles_l2 hN c hb n (k + 1) (by omega) (by omega) (by omega)
      simp (disch := omega) only [dec_t, cond_true, gd_true, Int.toNat_natCast, Option.bind_some, bind_id, nc1, wi_of, implPath_eq hN c[k + 1].1 (by omega), ncp, List.getElem?_eq_getElem h, List.getElem?_eq_getElem (show k < c.length by omega), ih, less_or]
      have e5 : decide (((c[k + 1].2.2.length : Nat) : Int) > 200) = !decide (c[k + 1].2.2.length ≤ 200) := by rw [← decide_not]; exact decide_eq_decide.2 (by omega)
      have e6 : (c[k + 1].2.2 == []) = decide (c[k + 1].2.2 = []) := beq_dec _ _
      rw [e1, e2]
      simp only [risF, List.all_cons, e5, e6, okOne]
      generalize risF (c[k + 1] :: c.drop (k + 1 + 1)) = b1
      generalize (c.drop (k + 1 + 1)).all _ = b2
      generalize decide (c[k + 1].2.2.length ≤ 200) = b5
      generalize decide (c[k + 1].2.2 = []) = b6
      generalize c[k + 1].2.1 = b7
      generalize okPath c[k + 1].1 = b8
      generalize Op.bytesLess c[k].1 c[k + 1].1 = b9
      cases b8 <;> cases b5 <;> cases b7 <;> cases b6 <;> cases b9 <;> cases b1 <;> cases b2 <;> rfl
    · simp (disch := omega) only [dec_t, dec_f, cond_true, cond_false, gd_true, Bool.and_true, Int.toNat_natCast, bind_id, nc1, wi_of, List.drop_of_length_le (show c.length ≤ k + 1 by omega), List.all_nil]
      have : ∃ l, c.drop k = l ∧ l.length ≤ 1 := ⟨_, rfl, by simp; omega⟩
      obtain ⟨l, e, hl⟩ := this
      rw [e]
      match l, hl with
      | [], _ => rfl
      | [_], _ => rfl
theorem homedAll_eq {N : Nat} (hN : 18446744073709551616 ≤ N) (c : List FileT) (hr : risF c = true) (hb : bdFileS 1000000000 c) : g_ag N c c = some (c.all (homed c)) := by
  have hc : c.length ≤ 1000000000 := hb.1
  have key : ∀ n c0 c1 (L : List FileT) m, g_bp.l2 N n c0 c1 L m = (idxL (fun e => g_af N e L) n c0 c1 m).bind fun s => alt s (fun y => some (.inl (L, y))) (fun _ => some (.inr L)) := by
    intro n c0 c1 L
    induction n with
    | zero => intro m; rfl
    | succ n ih =>
      intro m
      simp only [g_bp.l2, idxL, ih]
      by_cases q : m < c1
      · by_cases q2 : 0 ≤ m
        · simp only [q, q2, decide_true, cond_true, gd_true]
          cases c0[m.toNat]? with
          | none => rfl
          | some e =>
            rw [Option.bind_some, Option.bind_some]
            cases g_af N e L with
            | none => rfl
            | some b => cases b <;> simp only [Option.bind_some, cond_true, cond_false, bind_id, alt_inl]
        · simp only [q, q2, decide_true, decide_false, cond_true, gd_false]; rfl
      · simp only [q, decide_false, cond_false]; rfl
  unfold g_ag g_bm g_bp
  rw [key]
  have hp : ∀ x ∈ c, (fun e => g_af N e c) x = some (!homed c x) := by
    intro x hx
    have := (hb.2 x hx).1
    show g_af N x c = some (!homed c x)
    unfold g_af g_ab
    rw [parentCode_eq hN c x.1 hr hc this]; rfl
  rw [show (0 : Int) = ((0 : Nat) : Int) from rfl, idxL_eq N c 0 hp (by omega) (by omega) (by omega) (by omega), List.drop_zero, Option.bind_some]
  have h2 := idxF_any (fun x => !homed c x) c 0
  rw [List.all_eq_not_any_not, ← h2]
  cases idxF (fun x => !homed c x) c 0 <;> rfl
theorem implFiles_eq {N : Nat} (hN : 18446744073709551616 ≤ N) (c : List FileT) (hb : bdFileS 1000000000 c) : g_aa N c = some (okFiles c) := by
  have hl : c.length ≤ 1000000000 := hb.1
  unfold g_aa okFiles
  have key : g_aa.l2 N N c (c.length : Int) 0 c = some (bif risF c && c.all okOne then .inr c else .inl false) := by
    obtain ⟨M, rfl⟩ : ∃ M, N = M + 1 := ⟨N - 1, by omega⟩
    unfold g_aa.l2
    cases hcs : c with
    | nil => rfl
    | cons x xs =>
      have hx : bdFile 1000000000 x := hb.2 x (by rw [hcs]; exact List.mem_cons_self ..)
      have hl1 : x.1.length ≤ 1000000000 := hx.1
      have ih := implFiles_l2 hN c hb M 0 (by omega) (by omega) (by omega)
      rw [hcs] at ih hl
      rw [List.drop_zero, List.drop_succ_cons, List.drop_zero] at ih
      have w1 : wi (0 + 1) = ((0 + 1 : Nat) : Int) := rfl
      have e9 : decide ((0 : Int) < ((x :: xs).length : Int)) = true := dec_t (by simp)
      have e10 : (x :: xs)[(0 : Int).toNat]? = some x := rfl
      have e11 : decide ((0 : Int) ≤ 0) = true := rfl
      have e12 : decide ((0 : Int) > 0) = false := rfl
      have e5 : decide ((x.2.2.length : Int) > 200) = !decide (x.2.2.length ≤ 200) := by rw [← decide_not]; exact decide_eq_decide.2 (by omega)
      have e6 : (x.2.2 == []) = decide (x.2.2 = []) := beq_dec _ _
      simp only [e9, e10, e11, e12, w1, cond_true, cond_false, gd_true, Option.bind_some, implPath_eq hN x.1 (by omega), ih, e5, e6, List.all_cons, okOne]
      generalize risF (x :: xs) = b1
      generalize xs.all _ = b2
      generalize decide (x.2.2.length ≤ 200) = b5
      generalize decide (x.2.2 = []) = b6
      generalize x.2.1 = b7
      generalize okPath x.1 = b8
      cases b8 <;> cases b5 <;> cases b7 <;> cases b6 <;> cases b1 <;> cases b2 <;> rfl
  rw [key, Option.bind_some]
  cases hr : risF c with
  | false => simp only [Bool.false_and, cond_false, alt_inl, Bool.and_false]
  | true =>
    cases c.all okOne with
    | false => simp only [Bool.and_false, cond_false, alt_inl, Bool.false_and]
    | true =>
      simp only [Bool.and_true, Bool.true_and, cond_true, alt_inr]
      by_cases h : c.length ≤ 12
      · rw [dec_t (show (c.length : Int) ≤ 12 by omega), cond_true, homedAll_eq hN c hr hb, dec_t h]; rfl
      · rw [dec_f (show ¬ (c.length : Int) ≤ 12 by omega), cond_false, dec_f h]; rfl
theorem okOne_len {f : FileT} (h : okOne f = true) : f.1.length ≤ 40 ∧ f.2.2.length ≤ 200 := by
  unfold okOne okPath at h
  simp only [Bool.and_eq_true, decide_eq_true_eq] at h
  exact ⟨h.1.1, h.2.1⟩
theorem okFiles_parts {c : List FileT} (h : okFiles c = true) : c.length ≤ 12 ∧ risF c = true ∧ (∀ f ∈ c, okOne f = true) ∧ ∀ f ∈ c, homed c f = true := by
  unfold okFiles at h
  simp only [Bool.and_eq_true, decide_eq_true_eq, List.all_eq_true] at h
  exact ⟨h.1, h.2.1, h.2.2.1, h.2.2.2⟩
end Go.Vm
/- The laws' own helpers, printed by a program of ours. -/
set_option linter.unusedVariables false
set_option maxRecDepth 100000
namespace Go.Vm
def mkFileS (N : Nat) : Nat → List (List UInt8 × Bool × List UInt8) → List (List UInt8 × Bool × List UInt8)
  | _, [] => []
  | m, _ :: es => (mtx N (m), (((m + 1 : Nat) : Int).tmod 3 == 0), mtx N (m + 1 + 1)) :: mkFileS N (m + 1 + 1 + 1) es
theorem markFileS_l {N : Nat} (hN : 18446744073709551616 ≤ N) : ∀ (n m k : Nat) (done rest : List (List UInt8 × Bool × List UInt8)), done.length = k → rest.length < n → k + rest.length ≤ 140737488355328 → m + 3 * rest.length ≤ 9000000000000000000 →
    g_bh.l2 N n (m : Int) (k : Int) (done ++ rest) = some (((m + 3 * rest.length : Nat) : Int), done ++ mkFileS N m rest)
  | 0, _, _, _, _, _, h, _, _ => by omega
  | n + 1, m, k, done, [], hk, hn, hl, hm => by
    unfold g_bh.l2
    subst hk
    simp (disch := omega) only [dec_t, dec_f, cond_false, gd_true, Int.toNat_natCast, bind_id, nc1, wi_of, List.length_set, List.length_nil, List.append_nil, mkFileS, Nat.mul_zero, Nat.add_zero]
  | n + 1, m, k, done, e :: es, hk, hn, hl, hm => by
    unfold g_bh.l2
    simp only [List.length_cons] at hn hl hm
    subst hk
    obtain ⟨t0, ht0⟩ := markText_some hN (m) (by omega)
    obtain ⟨t2, ht2⟩ := markText_some hN (m + 1 + 1) (by omega)
    simp (disch := omega) only [dec_t, cond_true, gd_true, Int.toNat_natCast, Option.bind_some, bind_id, nc1, wi_of, List.length_append, List.length_cons, mid_get, mid_set, mtx, ht0, ht2, mkFileS]
    rw [List.append_cons, markFileS_l hN n (m + 1 + 1 + 1) (done.length + 1) _ es (by simp) (by omega) (by omega) (by omega)]
    simp only [List.append_assoc, List.singleton_append, Option.getD_some, Option.some.injEq, Prod.mk.injEq, and_true]
    omega
theorem heldFileS_l {N : Nat} (hN : 18446744073709551616 ≤ N) : ∀ (n m k : Nat) (done rest : List (List UInt8 × Bool × List UInt8)), done.length = k → rest.length < n → k + rest.length ≤ 140737488355328 → m + 3 * rest.length ≤ 9000000000000000000 →
    g_bf.l2 N n (done ++ mkFileS N m rest) (m : Int) (k : Int) = some (.inr ((m + 3 * rest.length : Nat) : Int))
  | 0, _, _, _, _, _, h, _, _ => by omega
  | n + 1, m, k, done, [], hk, hn, hl, hm => by
    unfold g_bf.l2
    subst hk
    simp (disch := omega) only [dec_t, dec_f, cond_false, gd_true, Int.toNat_natCast, bind_id, nc1, wi_of, List.length_nil, List.append_nil, mkFileS, Nat.mul_zero, Nat.add_zero]
  | n + 1, m, k, done, e :: es, hk, hn, hl, hm => by
    unfold g_bf.l2
    simp only [List.length_cons] at hn hl hm
    subst hk
    obtain ⟨t0, ht0⟩ := markText_some hN (m) (by omega)
    obtain ⟨t2, ht2⟩ := markText_some hN (m + 1 + 1) (by omega)
    simp (disch := omega) only [dec_t, cond_true, cond_false, gd_true, Bool.not_true, Int.toNat_natCast, Option.bind_some, bind_id, nc1, wi_of, List.length_append, List.length_cons, mid_get, mkFileS, mtx, ht0, ht2, Option.getD_some, beq_self_eq_true]
    rw [List.append_cons, heldFileS_l hN n (m + 1 + 1 + 1) (done.length + 1) _ es (by simp) (by omega) (by omega) (by omega)]
    congr 3
    omega
theorem FileS_held {N : Nat} (hN : 18446744073709551616 ≤ N) (c : List (List UInt8 × Bool × List UInt8)) (m : Nat) (hm : m + 3000000000 ≤ 1000000000000000000) (h : bdFileS 1000000000 c) : ∃ o : List (List UInt8 × Bool × List UInt8), ∃ k : Nat, g_bh N c (m : Int) = some (o, ((k : Nat) : Int)) ∧ m ≤ k ∧ k ≤ m + 3000000000 ∧ g_bf N o (m : Int) = some (k : Int) := by
  have hl : c.length ≤ 1000000000 := h.1
  have e1 := markFileS_l hN N m 0 [] c rfl (by omega) (by omega) (by omega)
  have e2 := heldFileS_l hN N m 0 [] c rfl (by omega) (by omega) (by omega)
  simp only [List.nil_append, Int.natCast_zero] at e1 e2
  refine ⟨mkFileS N m c, m + 3 * c.length, ?_, by omega, by omega, ?_⟩
  · unfold g_bh
    rw [e1]; rfl
  · unfold g_bf
    rw [e2]; rfl
abbrev bdByteS (n : Nat) (x : List UInt8) : Prop := x.length ≤ n
theorem toByteS_l (N n : Nat) (c ys : List UInt8) (k : Int) : g_bj.l3 N n c k ys = toL2 some n c k ys := by
  induction n generalizing k ys with
  | zero => rfl
  | succ n ih => simp only [g_bj.l3, toL2, ih, Option.bind_some]
theorem toByteS_eq {N : Nat} (hN : 18446744073709551616 ≤ N) (c : List UInt8) (h : bdByteS 1000000000 c) : g_bj N c = some c := by
  have hl : c.length ≤ 1000000000 := h
  unfold g_bj
  simp (disch := omega) only [toByteS_l, dec_t, gd_true, Bool.and_self, Int.toNat_natCast, bind_id, room_t]
  rw [show (0 : Int) = ((0 : Nat) : Int) from rfl, toL2_eq (p := some) (f := id) N c 0 _ (fun _ _ => rfl) (by omega) (by omega) (by omega) (by omega) (by simp)]
  simp
theorem eqByteS_l (N n : Nat) (c d : List UInt8) (k : Int) : g_bc.l4 N n c d k = eqL (fun x y => some (decide (x = y))) n c d k := by
  induction n generalizing k with
  | zero => rfl
  | succ n ih => simp only [g_bc.l4, eqL, ih, bne_dec, u8_dec, Option.bind_some]
theorem eqByteS_eq {N : Nat} (hN : 18446744073709551616 ≤ N) (x y : List UInt8) (h : bdByteS 1000000000 x) : g_bc N x y = some (decide (x = y)) := by
  have hl : x.length ≤ 1000000000 := h
  unfold g_bc
  simp only [eqByteS_l]
  exact eqS_eq x y (fun _ _ _ => rfl) (by omega) (by omega)
def mkByteS (N : Nat) : Nat → List UInt8 → List UInt8
  | _, [] => []
  | m, _ :: es => wb ((m : Nat) : Int) :: mkByteS N (m + 1) es
theorem markByteS_l {N : Nat} (hN : 18446744073709551616 ≤ N) : ∀ (n m k : Nat) (done rest : List UInt8), done.length = k → rest.length < n → k + rest.length ≤ 140737488355328 → m + 1 * rest.length ≤ 9000000000000000000 →
    g_bg.l2 N n (m : Int) (k : Int) (done ++ rest) = some (((m + 1 * rest.length : Nat) : Int), done ++ mkByteS N m rest)
  | 0, _, _, _, _, _, h, _, _ => by omega
  | n + 1, m, k, done, [], hk, hn, hl, hm => by
    unfold g_bg.l2
    subst hk
    simp (disch := omega) only [dec_t, dec_f, cond_false, gd_true, Int.toNat_natCast, bind_id, nc1, wi_of, List.length_nil, List.append_nil, mkByteS, Nat.mul_zero, Nat.add_zero]
  | n + 1, m, k, done, e :: es, hk, hn, hl, hm => by
    unfold g_bg.l2
    simp only [List.length_cons] at hn hl hm
    subst hk
    simp (disch := omega) only [dec_t, cond_true, gd_true, Int.toNat_natCast, Option.bind_some, bind_id, nc1, wi_of, List.length_append, List.length_cons, mid_get, mid_set, mkByteS]
    rw [List.append_cons, markByteS_l hN n (m + 1) (done.length + 1) _ es (by simp) (by omega) (by omega) (by omega)]
    simp only [List.append_assoc, List.singleton_append, Option.some.injEq, Prod.mk.injEq, and_true]
    omega
theorem ByteS_marked {N : Nat} (hN : 18446744073709551616 ≤ N) (c : List UInt8) (m : Nat) (hm : m + 1000000000 ≤ 1000000000000000000) (h : bdByteS 1000000000 c) : ∃ o : List UInt8, ∃ k : Nat, g_bg N c (m : Int) = some (o, ((k : Nat) : Int)) ∧ m ≤ k ∧ k ≤ m + 1000000000 := by
  have hl : c.length ≤ 1000000000 := h
  have e1 := markByteS_l hN N m 0 [] c rfl (by omega) (by omega) (by omega)
  simp only [List.nil_append, Int.natCast_zero] at e1
  refine ⟨mkByteS N m c, m + 1 * c.length, ?_, by omega, by omega⟩
  unfold g_bg
  rw [e1]; rfl
end Go.Vm
/- Banks: what is right, their bytes, what is read. -/
set_option linter.unusedVariables false
set_option maxRecDepth 100000
namespace Go.Vm
end Go.Vm
/- What is read of a bank's bytes, by the program and by the reference. -/
set_option linter.unusedVariables false
set_option maxRecDepth 100000
namespace Go.Vm
theorem drop_take' {α : Type} (l : List α) (a b : Nat) : (l.take (a + b)).drop a = (l.drop a).take b := by rw [List.drop_take]; congr 1; omega
theorem numB_take1 (t : List UInt8) (k : Nat) (h : k < t.length) : (numB ((t.drop k).take 1) : Int) = (t[k].toNat : Int) := by
  rw [drop_get h, List.take_succ_cons, List.take_zero]; simp only [numB, List.foldl_cons, List.foldl_nil, Nat.zero_mul, Nat.zero_add]
theorem l06Number_l3 (N : Nat) : ∀ (n : Nat) (m k : Nat) (c : List UInt8), c.length ≤ k + n - 1 → 0 < n → k ≤ c.length → c.length ≤ 7 → m < 256 ^ k →
    g_bz.l3 N n c (m : Int) (k : Int) = some (((c.drop k).foldl (fun n c => n * 256 + c.toNat) m : Nat) : Int)
  | 0, _, _, _, _, h, _, _, _ => by omega
  | n + 1, m, k, c, hn, _, hk, hc, hm => by
    unfold g_bz.l3
    by_cases h : k < c.length
    · have hm2 : m < 36028797018963968 := Nat.lt_of_lt_of_le hm (Nat.le_trans (Nat.pow_le_pow_right (by omega) (show k ≤ 6 by omega)) (by decide))
      have hc' := c[k].toNat_lt
      simp (disch := omega) only [dec_t, cond_true, gd_true, Int.toNat_natCast, get_t, Option.bind_some, bind_id, nc1, wi_u8, wi_of]
      rw [show ((m : Int) * 256 + (c[k].toNat : Int)) = ((m * 256 + c[k].toNat : Nat) : Int) by omega, l06Number_l3 N n _ (k + 1) c (by omega) (by omega) (by omega) hc (by rw [Nat.pow_succ]; omega), drop_get h]
      rfl
    · simp (disch := omega) only [dec_t, dec_f, cond_false, gd_true, Int.toNat_natCast, bind_id, nc1, wi_u8, wi_of, List.drop_of_length_le, List.foldl_nil]
theorem l06Number_eq {N : Nat} (hN : 18446744073709551616 ≤ N) (c : List UInt8) (hc : c.length ≤ 7) : g_bz N c = some ((numB c : Nat) : Int) := by
  unfold g_bz
  have := l06Number_l3 N N 0 0 c (by omega) (by omega) (by omega) hc (by simp)
  simp only [Int.natCast_zero] at this
  rw [this]; rfl
theorem tkR_ok (b : List UInt8) (f : Bool) (n : Nat) (h : n ≤ b.length) : tkR (b, f) n = ((b.drop n, f), b.take n) := by
  unfold tkR; rw [if_neg (by simp; omega)]
theorem tkR_short (b : List UInt8) (f : Bool) (n : Nat) (h : b.length < n) : tkR (b, f) n = ((b, true), []) := by
  unfold tkR; rw [if_pos (by simpa using h)]
theorem tkR_fail (r : List UInt8 × Bool) (n : Nat) (h : r.2 = true) : (tkR r n).1.2 = true := by
  unfold tkR; split <;> simp [h]
end Go.Vm
/- A bank's bytes; the program reads what the reference reads. -/
set_option linter.unusedVariables false
set_option maxRecDepth 100000
namespace Go.Vm
def twoB (n : Int) : List UInt8 := [wb (n.tdiv 256), wb n]
theorem wb_wi (x : Int) : wb (wi x) = wb x := by
  apply wb_eq; unfold wi IntKind.wrap; simp [IntKind.bits, IntKind.signed]; omega
theorem l08Two_eq (N : Nat) (n : Int) : g_ca N n = some (twoB n) := by
  unfold g_ca twoB; simp only [wb_wi]
theorem isLong1_eq {N : Nat} (hN : 18446744073709551616 ≤ N) (t : List UInt8) : g_ao N [t] = some (decide (65536 < t.length)) := by
  have key : ∀ n c0 c1 m, g_bo.l2 N n c0 c1 m = idxL (g_ap N) n c0 c1 m := by
    intro n c0 c1
    induction n with
    | zero => intro m; rfl
    | succ n ih => intro m; simp only [g_bo.l2, idxL, ih]
  unfold g_ao g_bl g_bo
  rw [key, contains_eq (p := g_ap N) (q := fun r => decide ((r.length : Int) > 65536)) [t] (fun x _ => rfl) (by simp; omega) (by simp), bind_id]
  simp only [List.any_cons, List.any_nil, Bool.or_false, Option.some.injEq]
  by_cases h : 65536 < t.length
  · rw [dec_t h, dec_t (by omega)]
  · rw [dec_f h, dec_f (by omega)]
end Go.Vm
/- Words of 32 bits: turns, bytes of words; rounds. -/
set_option linter.unusedVariables false
namespace Go.Vm
end Go.Vm
/- SHA-256: numbers in bytes, turns, the schedule. -/
set_option linter.unusedVariables false
set_option maxRecDepth 100000
namespace Go.Vm
/-- A number's bytes, the higher ones first. -/
def bytesN : Nat → Int → List UInt8
  | 0, _ => []
  | s + 1, n => bytesN s (shr n 8) ++ [wb n]
theorem bytesOf_l3 (N : Nat) : ∀ (n s : Nat) (x : Int) (tl : List UInt8), s < n → s + tl.length ≤ 1000000 → g_aj.l3 N n x ((s : Int) - 1) (List.replicate s 0 ++ tl) = some (bytesN s x ++ tl)
  | 0, _, _, _, h, _ => by omega
  | n + 1, 0, x, tl, _, _ => by
    unfold g_aj.l3
    simp (disch := omega) only [dec_f, cond_false, bind_id, wi_of, Int.natCast_zero, List.replicate_zero, List.nil_append, bytesN]
  | n + 1, s + 1, x, tl, h, hl => by
    unfold g_aj.l3
    have e : (((s + 1 : Nat) : Int) - 1) = (s : Int) := by omega
    have e1 : (List.replicate (s + 1) (0 : UInt8) ++ tl)[s]? = some 0 := by
      rw [List.getElem?_append_left (by simp)]; simp
    have e2 : (List.replicate (s + 1) (0 : UInt8) ++ tl).set s (wb x) = List.replicate s 0 ++ (wb x :: tl) := by
      rw [List.replicate_succ', List.append_assoc, List.set_append_right _ _ (by simp)]
      simp
    rw [e]
    simp (disch := omega) only [dec_t, cond_true, gd_true, Int.toNat_natCast, Option.bind_some, bind_id, wi_of, List.length_append, List.length_replicate, e1, e2]
    rw [bytesOf_l3 N n s (shr x 8) (wb x :: tl) (by omega) (by simp only [List.length_cons]; omega), bytesN, List.append_assoc]
    rfl
theorem bytesOf_eq {N : Nat} (hN : 18446744073709551616 ≤ N) (x : Int) (s : Nat) (hs : s ≤ 1000) : g_aj N x (s : Int) = some (bytesN s x) := by
  unfold g_aj
  have := bytesOf_l3 N N s x [] (by omega) (by simp only [List.length_nil]; omega)
  rw [List.append_nil, List.append_nil] at this
  simp (disch := omega) only [dec_t, gd_true, Bool.and_self, Int.toNat_natCast, bind_id, wi_of, room_t, this]
end Go.Vm
/- Files: their bytes; what is read of bytes, by the program and by the reference. -/
set_option linter.unusedVariables false
set_option maxRecDepth 100000
namespace Go.Vm
/-! ### Bytes -/
theorem xO1 {N : Nat} (hN : 18446744073709551616 ≤ N) (x : Int) : g_aj N x 1 = some [wb x] := by
  have := bytesOf_eq hN x 1 (by omega)
  simpa [bytesN] using this
theorem xO2 {N : Nat} (hN : 18446744073709551616 ≤ N) (x : Nat) : g_aj N (x : Int) 2 = some (twoB (x : Int)) := by
  have := bytesOf_eq hN (x : Int) 2 (by omega)
  unfold twoB
  rw [Int.tdiv_eq_ediv_of_nonneg (by omega)]
  simpa [bytesN, shr8] using this
def bitF (b : Bool) : Int := bif b then 1 else 0
theorem l01Bit_eq (N : Nat) (b : Bool) : g_by N b = some (bitF b) := by cases b <;> rfl
theorem flag_eq (N : Nat) (b : Bool) : g_an N b = some (bitF b) := by cases b <;> rfl
def fileB (f : FileT) : List UInt8 := wb (f.1.length : Int) :: (f.1 ++ (wb (bitF f.2.1) :: (twoB (f.2.2.length : Int) ++ f.2.2)))
def bytesF (c : List FileT) : List UInt8 := wb (c.length : Int) :: c.flatMap fileB
theorem twoB_len (x : Int) : (twoB x).length = 2 := rfl
theorem specBytes_l3 (N : Nat) (c : List FileT) (hc : c.length ≤ 12) (ho : ∀ f ∈ c, okOne f = true) : ∀ (n k : Nat) (acc : List UInt8), c.length ≤ k + n - 1 → 0 < n → k ≤ c.length → acc.length ≤ 1 + 1000 * k →
    g_cb.l3 N n c (k : Int) acc = some (acc ++ (c.drop k).flatMap fileB)
  | 0, _, _, _, h, _, _ => by omega
  | n + 1, k, acc, hn, _, hk, ha => by
    unfold g_cb.l3
    by_cases h : k < c.length
    · obtain ⟨l1, l2⟩ := okOne_len (ho _ (List.getElem_mem h))
      rw [drop_get h, List.flatMap_cons]
      simp (disch := omega) only [dec_t, cond_true, gd_true, Int.toNat_natCast, get_t, Option.bind_some, bind_id, nc1, wi_of, room_t, List.length_append, List.length_cons, List.length_nil, l01Bit_eq, l08Two_eq, twoB_len]
      rw [specBytes_l3 N c hc ho n (k + 1) _ (by omega) (by omega) (by omega) (by simp [twoB_len]; omega)]
      simp [fileB]
    · simp (disch := omega) only [dec_t, dec_f, cond_false, gd_true, Int.toNat_natCast, bind_id, nc1, wi_of, room_t, List.length_append, List.length_cons, List.length_nil, List.drop_of_length_le, List.flatMap_nil, List.append_nil]
theorem specBytes_eq {N : Nat} (hN : 18446744073709551616 ≤ N) (c : List FileT) (hc : c.length ≤ 12) (ho : ∀ f ∈ c, okOne f = true) : g_cb N c = some (bytesF c) := by
  unfold g_cb
  have key := specBytes_l3 N c hc ho N 0 [wb (c.length : Int)] (by omega) (by omega) (by omega) (by simp)
  rw [Int.natCast_zero, List.drop_zero] at key
  rw [key]; rfl
theorem implBytes_l3 {N : Nat} (hN : 18446744073709551616 ≤ N) (c : List FileT) (hc : c.length ≤ 12) (ho : ∀ f ∈ c, okOne f = true) : ∀ (n k : Nat) (acc : List UInt8), c.length ≤ k + n - 1 → 0 < n → k ≤ c.length → acc.length ≤ 1 + 1000 * k →
    g_ak.l3 N n c (c.length : Int) acc (k : Int) = some (acc ++ (c.drop k).flatMap fileB)
  | 0, _, _, _, h, _, _ => by omega
  | n + 1, k, acc, hn, _, hk, ha => by
    unfold g_ak.l3
    by_cases h : k < c.length
    · obtain ⟨l1, l2⟩ := okOne_len (ho _ (List.getElem_mem h))
      rw [drop_get h, List.flatMap_cons]
      have htl : (twoB (c[k].2.2.length : Int)).length = 2 := rfl
      simp (disch := omega) only [dec_t, cond_true, gd_true, Int.toNat_natCast, get_t, Option.bind_some, bind_id, nc1, wi_of, List.length_append, List.length_cons, List.length_nil, flag_eq, xO1 hN, xO2 hN]
      rw [implBytes_l3 hN c hc ho n (k + 1) _ (by omega) (by omega) (by omega) (by simp [twoB_len]; omega)]
      simp [fileB]
    · simp (disch := omega) only [dec_t, dec_f, cond_false, gd_true, Int.toNat_natCast, bind_id, nc1, wi_of, List.length_append, List.drop_of_length_le, List.flatMap_nil, List.append_nil]
theorem implBytes_eq {N : Nat} (hN : 18446744073709551616 ≤ N) (c : List FileT) (hc : c.length ≤ 12) (ho : ∀ f ∈ c, okOne f = true) : g_ak N c = some (bytesF c) := by
  unfold g_ak
  have key := implBytes_l3 hN c hc ho N 0 [wb (c.length : Int)] (by omega) (by omega) (by omega) (by simp)
  rw [Int.natCast_zero, List.drop_zero] at key
  rw [xO1 hN, Option.bind_some, key]; rfl
/-! ### Reading -/
def nB (b : List UInt8) : Nat := numB (b.take 1)
def mB (b : List UInt8) : Nat := numB ((b.drop (nB b + 2)).take 2)
def goodF (b : List UInt8) : Bool := decide (1 ≤ b.length) && (decide (nB b + 4 ≤ b.length) && decide (nB b + 4 + mB b ≤ b.length))
def fileOf (b : List UInt8) : FileT := ((b.drop 1).take (nB b), ((numB ((b.drop (nB b + 1)).take 1) : Nat) : Int) == 1, (b.drop (nB b + 4)).take (mB b))
def restF (b : List UInt8) : List UInt8 := b.drop (nB b + 4 + mB b)
def filesOf : Nat → List UInt8 → Option (List FileT × List UInt8)
  | 0, b => some ([], b)
  | n + 1, b => bif goodF b then (filesOf n (restF b)).map (fun x => (fileOf b :: x.1, x.2)) else none
def sF5 (p : List UInt8) (d : Bool) (x : (List UInt8 × Bool) × List UInt8) : (List UInt8 × Bool) × FileT := (x.1, (p, d, x.2))
def sF4 (p : List UInt8) (d : Bool) (x : (List UInt8 × Bool) × List UInt8) : (List UInt8 × Bool) × FileT := sF5 p d (tkR x.1 (numB x.2))
def sF3 (p : List UInt8) (x : (List UInt8 × Bool) × List UInt8) : (List UInt8 × Bool) × FileT := sF4 p (((numB x.2 : Nat) : Int) == 1) (tkR x.1 2)
def sF2 (x : (List UInt8 × Bool) × List UInt8) : (List UInt8 × Bool) × FileT := sF3 x.2 (tkR x.1 1)
def sF1 (x : (List UInt8 × Bool) × List UInt8) : (List UInt8 × Bool) × FileT := sF2 (tkR x.1 (numB x.2))
def stF (r : List UInt8 × Bool) : (List UInt8 × Bool) × FileT := sF1 (tkR r 1)
theorem sF4_f (p d x) (h : x.1.2 = true) : (sF4 p d x).1.2 = true := tkR_fail _ _ h
theorem sF3_f (p x) (h : x.1.2 = true) : (sF3 p x).1.2 = true := sF4_f _ _ _ (tkR_fail _ _ h)
theorem sF2_f (x) (h : x.1.2 = true) : (sF2 x).1.2 = true := sF3_f _ _ (tkR_fail _ _ h)
theorem sF1_f (x) (h : x.1.2 = true) : (sF1 x).1.2 = true := sF2_f _ (tkR_fail _ _ h)
theorem goodF_parts {b : List UInt8} (h : goodF b = true) : 1 ≤ b.length ∧ nB b + 4 ≤ b.length ∧ nB b + 4 + mB b ≤ b.length := by
  unfold goodF at h
  simpa only [Bool.and_eq_true, decide_eq_true_eq] using h
theorem stF_ok (b : List UInt8) (f : Bool) (h : goodF b = true) : stF (b, f) = ((restF b, f), fileOf b) := by
  obtain ⟨h1, h2, h3⟩ := goodF_parts h
  have t1 : tkR (b, f) 1 = ((b.drop 1, f), b.take 1) := tkR_ok b f 1 h1
  have t2 : tkR (b.drop 1, f) (nB b) = ((b.drop (nB b + 1), f), (b.drop 1).take (nB b)) := by
    rw [tkR_ok _ f _ (by simp; omega), List.drop_drop, Nat.add_comm 1]
  have t3 : tkR (b.drop (nB b + 1), f) 1 = ((b.drop (nB b + 2), f), (b.drop (nB b + 1)).take 1) := by
    rw [tkR_ok _ f _ (by simp; omega), List.drop_drop]
  have t4 : tkR (b.drop (nB b + 2), f) 2 = ((b.drop (nB b + 4), f), (b.drop (nB b + 2)).take 2) := by
    rw [tkR_ok _ f _ (by simp; omega), List.drop_drop]
  have t5 : tkR (b.drop (nB b + 4), f) (mB b) = ((b.drop (nB b + 4 + mB b), f), (b.drop (nB b + 4)).take (mB b)) := by
    rw [tkR_ok _ f _ (by simp; omega), List.drop_drop]
  have u1 : numB (b.take 1) = nB b := rfl
  have u2 : numB ((b.drop (nB b + 2)).take 2) = mB b := rfl
  unfold stF restF fileOf
  rw [t1, sF1, u1, t2, sF2, t3, sF3, t4, sF4, u2, t5, sF5]
theorem stF_fail (r : List UInt8 × Bool) (h : r.2 = true ∨ goodF r.1 = false) : (stF r).1.2 = true := by
  obtain ⟨b, f⟩ := r
  unfold stF
  rcases h with h | h
  · exact sF1_f _ (tkR_fail _ _ h)
  · dsimp only at h
    by_cases h1 : b.length < 1
    · exact sF1_f _ (by rw [tkR_short b f 1 h1])
    · have t1 : tkR (b, f) 1 = ((b.drop 1, f), b.take 1) := tkR_ok b f 1 (by omega)
      have u1 : numB (b.take 1) = nB b := rfl
      rw [t1, sF1, u1]
      by_cases h2 : (b.drop 1).length < nB b
      · exact sF2_f _ (by rw [tkR_short _ f _ h2])
      · rw [List.length_drop] at h2
        have t2 : tkR (b.drop 1, f) (nB b) = ((b.drop (nB b + 1), f), (b.drop 1).take (nB b)) := by
          rw [tkR_ok _ f _ (by simp; omega), List.drop_drop, Nat.add_comm 1]
        rw [t2, sF2]
        by_cases h3 : (b.drop (nB b + 1)).length < 1
        · exact sF3_f _ _ (by rw [tkR_short _ f _ h3])
        · rw [List.length_drop] at h3
          have t3 : tkR (b.drop (nB b + 1), f) 1 = ((b.drop (nB b + 2), f), (b.drop (nB b + 1)).take 1) := by
            rw [tkR_ok _ f _ (by simp; omega), List.drop_drop]
          rw [t3, sF3]
          by_cases h4 : (b.drop (nB b + 2)).length < 2
          · exact sF4_f _ _ _ (by rw [tkR_short _ f _ h4])
          · rw [List.length_drop] at h4
            have t4 : tkR (b.drop (nB b + 2), f) 2 = ((b.drop (nB b + 4), f), (b.drop (nB b + 2)).take 2) := by
              rw [tkR_ok _ f _ (by simp; omega), List.drop_drop]
            have u2 : numB ((b.drop (nB b + 2)).take 2) = mB b := rfl
            rw [t4, sF4, u2, tkR_short _ f _ ?_]
            · rfl
            rw [List.length_drop]
            unfold goodF at h
            rw [dec_t (show 1 ≤ b.length by omega), dec_t (show nB b + 4 ≤ b.length by omega), Bool.true_and, Bool.true_and, decide_eq_false_iff_not] at h
            omega
theorem readStep {N : Nat} (hN : 18446744073709551616 ≤ N) {α : Type} (r : List UInt8 × Bool) (K : List UInt8 → Bool → FileT → Option α) :
    ((g_at N r 1).bind fun r6 => (g_au N r6.1 r6.2).bind fun r7 => (g_at N r7.1 1).bind fun r8 => (g_at N r8.1 2).bind fun r9 => (g_au N r9.1 r9.2).bind fun r10 => K r10.1.1 r10.1.2 (r7.2, r8.2 == 1, r10.2)) = K (stF r).1.1 (stF r).1.2 (stF r).2 := by
  have e1 : ∀ r, g_at N r 1 = some ((tkR r 1).1, ((numB (tkR r 1).2 : Nat) : Int)) := fun r => number_eq hN r 1 (by omega)
  have e2 : ∀ r, g_at N r 2 = some ((tkR r 2).1, ((numB (tkR r 2).2 : Nat) : Int)) := fun r => number_eq hN r 2 (by omega)
  unfold stF
  rw [e1, Option.bind_some]
  generalize tkR r 1 = x
  unfold sF1
  rw [take_eq, Option.bind_some]
  generalize tkR x.1 (numB x.2) = x
  unfold sF2
  rw [e1, Option.bind_some]
  generalize tkR x.1 1 = y
  unfold sF3
  rw [e2, Option.bind_some]
  generalize tkR y.1 2 = z
  unfold sF4
  rw [take_eq, Option.bind_some]
  rfl
theorem implRead_l4 {N : Nat} (hN : 18446744073709551616 ≤ N) (t : List UInt8) : ∀ (n c k : Nat) (b : List UInt8) (f : Bool) (acc : List FileT), c ≤ k + n - 1 → 0 < n → k ≤ c → c ≤ 255 → acc.length = k →
    (∀ L r, filesOf (c - k) b = some (L, r) → g_as.l4 N n t (c : Int) (k : Int) b f acc = some (r, f, acc ++ L)) ∧
    ((f = true ∨ filesOf (c - k) b = none) → ∃ b' acc', g_as.l4 N n t (c : Int) (k : Int) b f acc = some (b', true, acc'))
  | 0, _, _, _, _, _, _, h, _, _, _ => by omega
  | n + 1, c, k, b, f, acc, hn, _, hk, hc, hl => by
    unfold g_as.l4
    by_cases h : k < c
    · have ih := implRead_l4 hN t n c (k + 1) (stF (b, f)).1.1 (stF (b, f)).1.2 (acc ++ [(stF (b, f)).2]) (by omega) (by omega) (by omega) hc (by simp [hl])
      have hs := readStep hN (b, f) (fun b' f' x => gd (roomOK (acc.length + [x].length) 40) <| (g_as.l4 N n t (c : Int) (wi ((k : Int) + 1)) b' f' (acc ++ [x])).bind some)
      rw [dec_t (show (k : Int) < (c : Int) by omega), cond_true, hs]
      rw [room_t (by simp; omega), gd_true, bind_id, wi_succ (by omega)]
      rw [show c - k = (c - (k + 1)) + 1 by omega, filesOf]
      refine ⟨fun L r hb => ?_, fun hb => ?_⟩
      · cases hg : goodF b with
        | false => rw [hg] at hb; cases hb
        | true =>
          rw [hg, cond_true] at hb
          cases hf : filesOf (c - (k + 1)) (restF b) with
          | none => rw [hf] at hb; cases hb
          | some x =>
            obtain ⟨L', r'⟩ := x
            rw [hf, Option.map_some] at hb
            obtain ⟨rfl, rfl⟩ := Prod.mk.inj (Option.some.inj hb)
            rw [stF_ok b f hg] at ih
            rw [stF_ok b f hg, ih.1 L' r' hf]
            simp
      · refine ih.2 ?_
        by_cases hx : f = true ∨ goodF b = false
        · exact .inl (stF_fail _ hx)
        · rw [not_or, Bool.not_eq_false] at hx
          rw [stF_ok b f hx.2]
          rcases hb with hb | hb
          · exact absurd hb hx.1
          · rw [hx.2, cond_true, Option.map_eq_none_iff] at hb
            exact .inr hb
    · have : k = c := by omega
      subst this
      simp (disch := omega) only [dec_f, cond_false, gd_true, bind_id, nc1, wi_of, room_t, List.length_cons, List.length_nil]
      rw [Nat.sub_self, filesOf]
      refine ⟨fun L r hb => ?_, fun hb => ?_⟩
      · obtain ⟨rfl, rfl⟩ := Prod.mk.inj (Option.some.inj hb); simp
      · rcases hb with hb | hb
        · exact ⟨b, acc, by rw [hb]⟩
        · cases hb
set_option maxHeartbeats 2000000 in
theorem specRead_l6 {N : Nat} (hN : 18446744073709551616 ≤ N) (t : List UInt8) (ht : t.length ≤ 65536) : ∀ (n k i : Nat) (acc : List FileT), i < n → k ≤ t.length → acc.length + i ≤ 255 →
    (∀ L r, filesOf i (t.drop k) = some (L, r) → g_cg.l6 N n t (k : Int) (i : Int) acc = some (.inr (acc ++ L))) ∧
    (filesOf i (t.drop k) = none → ∃ acc', g_cg.l6 N n t (k : Int) (i : Int) acc = some (.inl (false, acc')))
  | 0, _, _, _, h, _, _ => by omega
  | n + 1, k, 0, acc, hn, hk, ha => by
    unfold g_cg.l6
    simp (disch := omega) only [dec_t, dec_f, cond_false, gd_true, Int.toNat_natCast, bind_id, nc1, wi_u8, wi_of, room_t, List.length_cons, List.length_nil, filesOf]
    refine ⟨fun L r hb => ?_, fun hb => by cases hb⟩
    obtain ⟨rfl, rfl⟩ := Prod.mk.inj (Option.some.inj hb)
    simp
  | n + 1, k, i + 1, acc, hn, hk, ha => by
    unfold g_cg.l6
    rw [dec_t (show ((i + 1 : Nat) : Int) > 0 by omega), cond_true, filesOf]
    by_cases h : k < t.length
    · have hq := t[k].toNat_lt
      have n1 : nB (t.drop k) = t[k].toNat := by have := numB_take1 t k h; unfold nB; omega
      have l0 : (t.drop k).length = t.length - k := List.length_drop
      rw [dec_f (show ¬ ((k : Int) ≥ (t.length : Int)) by omega), cond_false, dec_t (show (0 : Int) ≤ (k : Int) by omega), gd_true, Int.toNat_natCast, get_t h, Option.bind_some]
      simp only [Option.bind_some, gd_true]
      generalize hz : t[k].toNat = q at hq n1
      have w1 : wi ((k : Int) + 1) = ((k + 1 : Nat) : Int) := by rw [wi_of (by omega) (by omega)]; rfl
      have w2 : wi ((q : Nat) : Int) = (q : Int) := wi_of (by omega) (by omega)
      have w3 : wi (((k + 1 : Nat) : Int) + (q : Int)) = ((k + 1 + q : Nat) : Int) := by rw [wi_of (by omega) (by omega)]; omega
      have w4 : wi (((k + 1 + q : Nat) : Int) + 3) = ((k + 1 + q + 3 : Nat) : Int) := by rw [wi_of (by omega) (by omega)]; omega
      have w5 : wi ((q : Int) + 2) = ((q + 2 : Nat) : Int) := by rw [wi_of (by omega) (by omega)]; omega
      have w6 : wi ((k : Int) + ((q + 2 : Nat) : Int)) = ((k + (q + 2) : Nat) : Int) := by rw [wi_of (by omega) (by omega)]; omega
      have w7 : wi (((k + (q + 2) : Nat) : Int) + 2) = ((k + (q + 2) + 2 : Nat) : Int) := by rw [wi_of (by omega) (by omega)]; omega
      simp only [w1, w2, w3, w4, w5, w6, w7]
      by_cases h2 : k + 1 + q + 3 ≤ t.length
      · rw [dec_f (show ¬ (((k + 1 + q + 3 : Nat) : Int) > (t.length : Int)) by omega), cond_false]
        have h3 : k + 1 + q < t.length := by omega
        have s1 : (t.take (k + 1 + q)).drop (k + 1) = ((t.drop k).drop 1).take q := by rw [drop_take', List.drop_drop]
        have s2 : (t.take (k + (q + 2) + 2)).drop (k + (q + 2)) = ((t.drop k).drop (q + 2)).take 2 := by rw [drop_take', List.drop_drop]
        have s3 : g_bz N (((t.drop k).drop (q + 2)).take 2) = some ((mB (t.drop k) : Nat) : Int) := by
          rw [l06Number_eq hN _ (by simp; omega)]; unfold mB; rw [n1]
        have m1 : mB (t.drop k) < 65536 := by
          have := numB_lt (((t.drop k).drop (nB (t.drop k) + 2)).take 2)
          have e : (((t.drop k).drop (nB (t.drop k) + 2)).take 2).length = 2 := by simp; omega
          rw [e] at this
          exact this
        have d1 : ((t[k + 1 + q].toNat : Int) == 1) = (((numB (((t.drop k).drop (q + 1)).take 1) : Nat) : Int) == 1) := by
          rw [List.drop_drop, show k + (q + 1) = k + 1 + q by omega, numB_take1 t (k + 1 + q) h3]
        generalize hm : mB (t.drop k) = m at s3 m1
        have w8 : wi (((k + (q + 2) + 2 : Nat) : Int) + (m : Int)) = ((k + (q + 2) + 2 + m : Nat) : Int) := by rw [wi_of (by omega) (by omega)]; omega
        have w10 : ((k + (q + 2) + 2 : Nat) : Int) + (m : Int) = ((k + (q + 2) + 2 + m : Nat) : Int) := by omega
        simp (disch := omega) only [dec_t, gd_true, Bool.true_and, Bool.and_self, Int.toNat_natCast, Option.bind_some, bind_id, wi_of, room_t, List.length_cons, List.length_nil, List.getElem?_eq_getElem h3, s1, s2, s3, w10]
        by_cases h4 : k + (q + 2) + 2 + m ≤ t.length
        · have hg : goodF (t.drop k) = true := by
            unfold goodF
            rw [n1, hm, l0, dec_t (show 1 ≤ t.length - k by omega), dec_t (show q + 4 ≤ t.length - k by omega), dec_t (show q + 4 + m ≤ t.length - k by omega)]; rfl
          have s4 : (t.take (k + (q + 2) + 2 + m)).drop (k + (q + 2) + 2) = ((t.drop k).drop (q + 4)).take m := by
            rw [drop_take', List.drop_drop]; congr 2
          have w9 : wi (((i + 1 : Nat) : Int) - 1) = (i : Int) := by rw [wi_of (by omega) (by omega)]; omega
          have f1 : ((((t.drop k).drop 1).take q, (t[k + 1 + q].toNat : Int) == 1, ((t.drop k).drop (q + 4)).take m) : FileT) = fileOf (t.drop k) := by
            unfold fileOf; rw [n1, hm, d1]
          have f2 : t.drop (k + (q + 2) + 2 + m) = restF (t.drop k) := by
            unfold restF; rw [n1, hm, List.drop_drop]; congr 1; omega
          simp (disch := omega) only [dec_t, dec_f, cond_false, gd_true, s4, ncp, f1]
          have ih := specRead_l6 hN t ht n (k + (q + 2) + 2 + m) i (acc ++ [fileOf (t.drop k)]) (by omega) h4 (by simp; omega)
          rw [f2] at ih
          rw [hg, cond_true]
          refine ⟨fun L r hb => ?_, fun hb => ?_⟩
          · cases hf : filesOf i (restF (t.drop k)) with
            | none => rw [hf] at hb; cases hb
            | some x =>
              obtain ⟨L', r'⟩ := x
              rw [hf, Option.map_some] at hb
              obtain ⟨rfl, rfl⟩ := Prod.mk.inj (Option.some.inj hb)
              rw [ih.1 L' r' hf]; simp
          · rw [Option.map_eq_none_iff] at hb
            exact ih.2 hb
        · have hg : goodF (t.drop k) = false := by
            unfold goodF
            rw [n1, hm, l0, dec_f (show ¬ (q + 4 + m ≤ t.length - k) by omega), Bool.and_false, Bool.and_false]
          simp (disch := omega) only [dec_t, dec_f, cond_true, cond_false, hg]
          exact ⟨fun L r hb => (by cases hb), fun _ => ⟨_, rfl⟩⟩
      · have hg : goodF (t.drop k) = false := by
          unfold goodF
          rw [n1, l0, dec_f (show ¬ (q + 4 ≤ t.length - k) by omega), Bool.false_and, Bool.and_false]
        rw [dec_t (show ((k + 1 + q + 3 : Nat) : Int) > (t.length : Int) by omega), cond_true, hg, cond_false]
        exact ⟨fun L r hb => (by cases hb), fun _ => ⟨_, rfl⟩⟩
    · have hg : goodF (t.drop k) = false := by
        unfold goodF
        rw [List.length_drop, dec_f (by omega)]; rfl
      rw [dec_t (show ((k : Int) ≥ (t.length : Int)) by omega), cond_true, hg, cond_false]
      exact ⟨fun L r hb => (by cases hb), fun _ => ⟨_, rfl⟩⟩
end Go.Vm
/- The law: files read of bytes, by the program and by the reference. -/
set_option linter.unusedVariables false
set_option maxRecDepth 100000
namespace Go.Vm
theorem filesOf_bd : ∀ (n : Nat) (b : List UInt8) (L : List FileT) (r : List UInt8), filesOf n b = some (L, r) → L.length = n ∧ ∀ f ∈ L, f.1.length ≤ b.length ∧ f.2.2.length ≤ b.length
  | 0, b, L, r, h => by
    obtain ⟨rfl, rfl⟩ := Prod.mk.inj (Option.some.inj h); simp
  | n + 1, b, L, r, h => by
    unfold filesOf at h
    cases hg : goodF b with
    | false => rw [hg] at h; cases h
    | true =>
      rw [hg, cond_true] at h
      cases hf : filesOf n (restF b) with
      | none => rw [hf] at h; cases h
      | some x =>
        obtain ⟨L', r'⟩ := x
        rw [hf, Option.map_some] at h
        obtain ⟨rfl, rfl⟩ := Prod.mk.inj (Option.some.inj h)
        obtain ⟨i1, i2⟩ := filesOf_bd n _ L' r' hf
        have hl : (restF b).length ≤ b.length := by unfold restF; simp
        refine ⟨by simp [i1], fun f hf => ?_⟩
        rcases List.mem_cons.1 hf with rfl | hf
        · unfold fileOf; simp only [List.length_take, List.length_drop]; omega
        · have := i2 f hf; omega
def rdFiles (t : List UInt8) : List FileT × Int :=
  if 65536 < t.length then ([], 2) else
  match t with
  | [] => ([], 3)
  | a :: t1 =>
    match filesOf a.toNat t1 with
    | none => ([], 3)
    | some x => bif okFiles x.1 then (bif bytesF x.1 == t then (x.1, 0) else ([], 3)) else ([], 3)
theorem filesOf_ok {a : UInt8} {t1 : List UInt8} {L : List FileT} {r : List UInt8} (h : filesOf a.toNat t1 = some (L, r)) (ht : t1.length ≤ 65536) : bdFileS 1000000000 L := by
  obtain ⟨h1, h2⟩ := filesOf_bd _ _ _ _ h
  have := a.toNat_lt
  exact ⟨by omega, fun f hf => ⟨by have := h2 f hf; omega, by have := h2 f hf; omega⟩⟩
theorem specReadFiles_eq {N : Nat} (hN : 18446744073709551616 ≤ N) (t : List UInt8) : g_bt N t = some (rdFiles t) := by
  unfold g_bt rdFiles
  by_cases h : 65536 < t.length
  · rw [dec_t (show (t.length : Int) > 65536 by omega), cond_true, if_pos h]
  · rw [dec_f (show ¬ (t.length : Int) > 65536 by omega), cond_false, if_neg h]
    unfold g_cg
    cases t with
    | nil => rfl
    | cons a t1 =>
      have e0 : ((a :: t1) == ([] : List UInt8)) = false := rfl
      have hq := a.toNat_lt
      rw [List.length_cons] at h
      have key := specRead_l6 hN (a :: t1) (by rw [List.length_cons]; omega) N 1 a.toNat [] (by omega) (by simp) (by simp; omega)
      rw [List.drop_succ_cons, List.drop_zero] at key
      simp only [e0, cond_false, List.getElem?_cons_zero, Option.bind_some, wi_u8]
      rw [show (1 : Int) = ((1 : Nat) : Int) from rfl]
      cases hf : filesOf a.toNat t1 with
      | none =>
        obtain ⟨acc', e⟩ := key.2 hf
        rw [e]; rfl
      | some x =>
        obtain ⟨L, r⟩ := x
        have hb := filesOf_ok hf (by omega)
        rw [key.1 L r hf, List.nil_append]
        simp only [Option.bind_some, alt_inr]
        rw [specFiles_eq hN L hb, Option.bind_some]
        cases ho : okFiles L with
        | false => rfl
        | true =>
          obtain ⟨h1, _, h2, _⟩ := okFiles_parts ho
          rw [cond_true, specBytes_eq hN L h1 h2, Option.bind_some, cond_true]
          cases bytesF L == a :: t1 <;> rfl
theorem implReadFiles_eq {N : Nat} (hN : 18446744073709551616 ≤ N) (t : List UInt8) : g_ae N t = some (rdFiles t) := by
  unfold g_ae rdFiles
  rw [isLong1_eq hN, Option.bind_some]
  by_cases h : 65536 < t.length
  · rw [dec_t h, cond_true, if_pos h]
  · rw [dec_f h, cond_false, if_neg h]
    unfold g_as
    have e1 : g_at N (t, false) 1 = some ((tkR (t, false) 1).1, ((numB (tkR (t, false) 1).2 : Nat) : Int)) := number_eq hN (t, false) 1 (by omega)
    rw [e1]
    cases t with
    | nil =>
      rw [tkR_short [] false 1 (by simp)]
      have key := (implRead_l4 hN [] N 0 0 [] true [] (by omega) (by omega) (by omega) (by omega) rfl).1 [] [] rfl
      simp only [Option.bind_some]
      rw [show numB [] = 0 from rfl]
      rw [show (0 : Int) = ((0 : Nat) : Int) from rfl, key]; rfl
    | cons a t1 =>
      have hq := a.toNat_lt
      rw [List.length_cons] at h
      rw [tkR_ok (a :: t1) false 1 (by simp)]
      have e2 : numB ((a :: t1).take 1) = a.toNat := by simp [numB]
      simp only [Option.bind_some, e2, List.drop_succ_cons, List.drop_zero]
      have key := implRead_l4 hN (a :: t1) N a.toNat 0 t1 false [] (by omega) (by omega) (by omega) (by omega) rfl
      rw [Nat.sub_zero, Int.natCast_zero] at key
      cases hf : filesOf a.toNat t1 with
      | none =>
        obtain ⟨b', acc', e⟩ := key.2 (.inr hf)
        rw [e]; rfl
      | some x =>
        obtain ⟨L, r⟩ := x
        have hb := filesOf_ok hf (by omega)
        rw [key.1 L r hf, List.nil_append]
        simp only [Option.bind_some, Bool.not_false, cond_true]
        rw [implFiles_eq hN L hb, Option.bind_some]
        cases ho : okFiles L with
        | false => rfl
        | true =>
          obtain ⟨h1, _, h2, _⟩ := okFiles_parts ho
          rw [cond_true, implBytes_eq hN L h1 h2, Option.bind_some, cond_true]
          cases bytesF L == a :: t1 <;> rfl
theorem rdFiles_bd (t : List UInt8) : bdFileS 1000000000 (rdFiles t).1 := by
  have z : bdFileS 1000000000 ([] : List FileT) := ⟨by simp, fun _ h => by cases h⟩
  unfold rdFiles
  split
  · exact z
  · rename_i h
    split
    · exact z
    · split
      · exact z
      · rename_i x hf
        obtain ⟨L, r⟩ := x
        rw [List.length_cons] at h
        have hb := filesOf_ok hf (by omega)
        dsimp only
        cases okFiles L
        · exact z
        · rw [cond_true]
          cases bytesF L == _ :: _
          · exact z
          · exact hb
theorem FnExactReadFiles_true {N : Nat} (hN : 18446744073709551616 ≤ N) (t : List UInt8) : g_bb N t = some true := by
  unfold g_bb
  by_cases q0 : t.length ≤ 1048576
  · have t1 := toByteS_eq hN t (by show t.length ≤ 1000000000; omega)
    have f1 := implReadFiles_eq hN t
    have f2 := specReadFiles_eq hN t
    have g1 := eqFileS_eq hN (rdFiles t).1 (rdFiles t).1 (rdFiles_bd t)
    have g2 := eqByteS_eq hN t t (by show t.length ≤ 1000000000; omega)
    obtain ⟨o1, m1, n1, n2, n3⟩ := ByteS_marked hN t 1 (by omega) (by show t.length ≤ 1000000000; omega)
    obtain ⟨o2, m2, n4, n5, n6, n7⟩ := FileS_held hN (rdFiles t).1 1 (by omega) (rdFiles_bd t)
    rw [show ((1 : Nat) : Int) = 1 from rfl] at n1 n4 n7
    simp (disch := omega) only [dec_f, decide_true, cond_false, Bool.not_true, Option.bind_some, bne_fi, t1, f1, f2, g1, g2, n1, n4, n7]
  · simp (disch := omega) only [dec_t, cond_true]
theorem law_FnExactReadFiles (t : List UInt8) {q : Prop} (_ : q) : ∃ N, g_bb N t = some true :=
  ⟨18446744073709551616, FnExactReadFiles_true (Nat.le_refl _) t⟩
end Go.Vm

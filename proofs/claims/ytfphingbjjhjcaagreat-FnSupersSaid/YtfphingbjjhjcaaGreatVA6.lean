/- A part of the proof: an abstract machine, mirrors and their laws, one text behind the other. -/
import Derived.Test.YtfphingbjjhjcaaGreatVA5
/- Reading supers; the law FnExactReadSuper. -/
set_option linter.unusedVariables false
set_option maxRecDepth 100000
namespace Go.Vm
def rdPlc (l : List UInt8) : PlcT := ((numB (l.take 1) : Int), (numB ((l.drop 1).take 2) : Int))
def plcsOf : Nat → List UInt8 → List PlcT
  | 0, _ => []
  | n + 1, l => rdPlc l :: plcsOf n (l.drop 3)
theorem plcsOf_length : ∀ n l, (plcsOf n l).length = n
  | 0, _ => rfl
  | n + 1, l => by simp [plcsOf, plcsOf_length]
def stP (r : List UInt8 × Bool) : (List UInt8 × Bool) × PlcT := ((tkR (tkR r 1).1 2).1, (numB (tkR r 1).2 : Int), (numB (tkR (tkR r 1).1 2).2 : Int))
theorem stP_ok (b : List UInt8) (f : Bool) (h : 3 ≤ b.length) : stP (b, f) = ((b.drop 3, f), rdPlc b) := by
  unfold stP rdPlc
  rw [tkR_ok b f 1 (by omega)]; dsimp only
  rw [tkR_ok (b.drop 1) f 2 (by simp; omega)]
  simp only [List.drop_drop]
theorem stP_fail (r : List UInt8 × Bool) (h : r.2 = true ∨ r.1.length < 3) : (stP r).1.2 = true := by
  obtain ⟨b, f⟩ := r
  unfold stP
  rcases h with h | h
  · exact tkR_fail _ _ (tkR_fail _ _ h)
  · by_cases h1 : b.length < 1
    · exact tkR_fail _ _ (by rw [tkR_short b f 1 h1])
    · rw [tkR_ok b f 1 (by omega)]; dsimp only
      rw [tkR_short _ _ _ (by simp at h ⊢; omega)]
theorem iSup_l4 {N : Nat} (hN : 18446744073709551616 ≤ N) (m2 : Int) (m3 : List UInt8) (m6 : Int) (m7 : List UInt8) : ∀ (n c k : Nat) (b : List UInt8) (f : Bool) (acc : List PlcT), c ≤ k + n - 1 → 0 < n → k ≤ c → c ≤ 16 → acc.length = k →
    (3 * (c - k) ≤ b.length → g_bf.l4 N n (c : Int) (k : Int) m2 m3 b f m6 m7 acc = some (m2, m3, b.drop (3 * (c - k)), f, m6, m7, acc ++ plcsOf (c - k) b)) ∧
    ((f = true ∨ b.length < 3 * (c - k)) → ∃ b' acc', g_bf.l4 N n (c : Int) (k : Int) m2 m3 b f m6 m7 acc = some (m2, m3, b', true, m6, m7, acc'))
  | 0, _, _, _, _, _, _, h, _, _, _ => by omega
  | n + 1, c, k, b, f, acc, hn, _, hk, hc, hl => by
    unfold g_bf.l4
    by_cases h : k < c
    · have e1 : ∀ r, g_bg N r 1 = _ := fun r => number_eq hN r 1 (by omega)
      have e2 : ∀ r, g_bg N r 2 = _ := fun r => number_eq hN r 2 (by omega)
      simp (disch := omega) only [dec_t, cond_true, gd_true, Option.bind_some, bind_id, nc1, wi_of, room_t, List.length_cons, List.length_nil, e1, e2]
      have ih := iSup_l4 hN m2 m3 m6 m7 n c (k + 1) (stP (b, f)).1.1 (stP (b, f)).1.2 (acc ++ [(stP (b, f)).2]) (by omega) (by omega) (by omega) hc (by simp [hl])
      refine ⟨fun hb => ?_, fun hb => ?_⟩
      · have h3 : 3 ≤ b.length := by omega
        have := ih.1 (by rw [stP_ok b f h3]; simp; omega)
        refine this.trans ?_
        rw [stP_ok b f h3]
        simp only [List.drop_drop, List.append_assoc, List.singleton_append]
        rw [show c - k = (c - (k + 1)) + 1 by omega, plcsOf, show 3 + 3 * (c - (k + 1)) = 3 * (c - (k + 1) + 1) by omega]
      · refine ih.2 ?_
        by_cases h3 : f = true ∨ b.length < 3
        · exact .inl (stP_fail _ h3)
        · rw [not_or] at h3
          rw [stP_ok b f (by omega)]
          rcases hb with hb | hb
          · exact absurd hb h3.1
          · refine .inr ?_
            simp only [List.length_drop]
            omega
    · have e : c - k = 0 := by omega
      simp (disch := omega) only [dec_f, cond_false, gd_true, bind_id, nc1, wi_of, room_t, List.length_cons, List.length_nil, e, Nat.mul_zero, List.drop_zero, plcsOf, List.append_nil]
      exact ⟨fun _ => trivial, fun hb => ⟨b, acc, by rcases hb with hb | hb; (· rw [hb]); omega⟩⟩
/-- What the bytes tell. -/
def supOf (t : List UInt8) : SupT := ((numB (t.take 2) : Int), plcsOf ((numB (t.take 2) + 63) / 64) (t.drop 2), t.drop (2 + 3 * ((numB (t.take 2) + 63) / 64)))
def rdSup (t : List UInt8) : SupT × Int :=
  if 65536 < t.length then ((0, [], []), 2) else
  if t.length = 34 + 3 * ((numB (t.take 2) + 63) / 64) ∧ okSup (supOf t) = true then (supOf t, 0) else ((0, [], []), 3)
theorem numB2_lt (t : List UInt8) : numB (t.take 2) < 65536 := by
  have h := numB_lt (t.take 2)
  have h2 : (t.take 2).length ≤ 2 := by simp; omega
  have := Nat.pow_le_pow_right (show 0 < 256 by omega) h2
  omega
theorem okSup_len {s : SupT} (h : okSup s = true) : s.2.2.length = 32 ∧ 1 ≤ s.1 ∧ s.1 ≤ 1024 := by
  simp only [okSup, Bool.and_eq_true, decide_eq_true_eq, inB] at h
  exact ⟨h.2.2.1, h.1⟩
theorem iReadSup {N : Nat} (hN : 18446744073709551616 ≤ N) (t : List UInt8) (h0 : t.length ≤ 65536) : ∃ s0, g_bf N t = some (if t.length = 34 + 3 * ((numB (t.take 2) + 63) / 64) ∧ okSup (supOf t) = true then (supOf t, true) else (s0, false)) := by
  unfold g_bf
  have e2 : ∀ r, g_bg N r 2 = _ := fun r => number_eq hN r 2 (by omega)
  rw [e2, Option.bind_some]
  by_cases h2 : t.length < 2
  · rw [tkR_short t false 2 h2]
    dsimp only
    obtain ⟨b', acc', e⟩ := (iSup_l4 hN 0 [] 0 [] N 0 0 t true [] (by omega) (by omega) (by omega) (by omega) rfl).2 (.inl rfl)
    simp only [Int.natCast_zero] at e
    rw [show ((numB ([] : List UInt8) : Nat) : Int) = 0 from rfl, pieces_eq N 0 (by omega), Option.bind_some, show min ((0 + 63) / 64 : Int) 16 = 0 by decide, e, Option.bind_some]
    refine ⟨(0, acc', b'), ?_⟩
    rw [if_neg (fun h => absurd h.1 (by omega))]; rfl
  · rw [tkR_ok t false 2 (by omega)]
    dsimp only
    have hs := numB2_lt t
    unfold supOf
    generalize numB (t.take 2) = s at hs
    have hn : ((s : Int) + 63) / 64 = (((s + 63) / 64 : Nat) : Int) := by omega
    rw [pieces_eq N s (by omega), Option.bind_some, hn]
    have hm : min (((s + 63) / 64 : Nat) : Int) 16 = ((min ((s + 63) / 64) 16 : Nat) : Int) := by omega
    rw [hm]
    have h4 := iSup_l4 hN 0 [] (s : Int) [] N (min ((s + 63) / 64) 16) 0 (t.drop 2) false [] (by omega) (by omega) (by omega) (by omega) rfl
    simp only [Int.natCast_zero, Nat.sub_zero, List.nil_append] at h4
    by_cases h3 : (t.drop 2).length < 3 * min ((s + 63) / 64) 16
    · obtain ⟨b', acc', e⟩ := h4.2 (.inr h3)
      rw [List.length_drop] at h3
      rw [e, Option.bind_some]
      refine ⟨((s : Int), acc', b'), ?_⟩
      rw [if_neg (fun h => absurd h.1 (by omega))]; rfl
    · have e := h4.1 (by omega)
      rw [List.length_drop] at h3
      rw [e, Option.bind_some]
      dsimp only
      rw [SuperOK_eq hN _ (by dsimp only; omega) (by dsimp only; rw [plcsOf_length]; omega)]
      by_cases hk : (s + 63) / 64 ≤ 16
      · rw [show min ((s + 63) / 64) 16 = (s + 63) / 64 by omega, List.drop_drop]
        cases ho : okSup ((s : Int), plcsOf ((s + 63) / 64) (t.drop 2), t.drop (2 + 3 * ((s + 63) / 64)))
        · refine ⟨((s : Int), plcsOf ((s + 63) / 64) (t.drop 2), t.drop (2 + 3 * ((s + 63) / 64))), ?_⟩
          rw [if_neg (by simp)]; rfl
        · have := (okSup_len ho).1
          rw [List.length_drop] at this
          refine ⟨(0, [], []), ?_⟩
          rw [if_pos ⟨by omega, rfl⟩]; rfl
      · have f1 : ∀ (l : List PlcT) (r : List UInt8), okSup ((s : Int), l, r) = false := fun l r => by
          cases ho : okSup ((s : Int), l, r)
          · rfl
          · have := (okSup_len ho).2; dsimp only at this; omega
        refine ⟨((s : Int), plcsOf (min ((s + 63) / 64) 16) (t.drop 2), (t.drop 2).drop (3 * min ((s + 63) / 64) 16)), ?_⟩
        rw [f1, f1, if_neg (by simp)]; rfl
theorem iReadSuper_eq {N : Nat} (hN : 18446744073709551616 ≤ N) (t : List UInt8) : g_ae N t = some (rdSup t) := by
  unfold g_ae rdSup
  rw [isLong1_eq hN, Option.bind_some]
  by_cases h0 : 65536 < t.length
  · simp only [h0, decide_true, cond_true, if_true]
  · simp only [h0, decide_false, cond_false, if_false]
    obtain ⟨s0, e⟩ := iReadSup hN t (by omega)
    rw [e, Option.bind_some]
    by_cases q : t.length = 34 + 3 * ((numB (t.take 2) + 63) / 64) ∧ okSup (supOf t) = true
    · rw [if_pos q, if_pos q]; rfl
    · rw [if_neg q, if_neg q]; rfl
end Go.Vm
/- Banks: runs of requests keep a bank right (plain words). -/
set_option linter.unusedVariables false
set_option maxRecDepth 100000
namespace Go.Vm
end Go.Vm
/- Banks: the reference's runs keep a bank right. -/
set_option linter.unusedVariables false
set_option maxRecDepth 100000
namespace Go.Vm
end Go.Vm
/- Banks: what is read back from a right bank's bytes. -/
set_option linter.unusedVariables false
set_option maxRecDepth 100000
namespace Go.Vm
theorem wb_toNat {x : Int} (h : 0 ≤ x ∧ x ≤ 255) : ((wb x).toNat : Int) = x := by rw [toNat_wb]; omega
theorem numB_cons (c : UInt8) (l : List UInt8) : numB (c :: l) = c.toNat * 256 ^ l.length + numB l := by
  have := numB_append [c] l
  rw [List.singleton_append] at this
  rw [this]; simp [numB]
theorem numB_twoB {n : Int} (h : 0 ≤ n ∧ n < 65536) : ((numB (twoB n) : Nat) : Int) = n := by
  have e : n.tdiv 256 = n / 256 := Int.tdiv_eq_ediv_of_nonneg (by omega)
  have h3 := toNat_wb (n / 256); have h4 := toNat_wb n
  unfold twoB
  rw [e, numB_cons, numB_cons, show numB [] = 0 from rfl]
  simp only [List.length_cons, List.length_nil, Nat.reduceAdd, Nat.reducePow]
  omega
theorem numB_one {n : Int} (h : 0 ≤ n ∧ n ≤ 255) : ((numB [wb n] : Nat) : Int) = n := by
  have := wb_toNat h
  simp only [numB, List.foldl_cons, List.foldl_nil]; omega
theorem twoB_length (n : Int) : (twoB n).length = 2 := rfl
end Go.Vm
/- Draws. -/
set_option linter.unusedVariables false
set_option maxRecDepth 100000
namespace Go.Vm
abbrev SrcT := List UInt8 × Int × Int
structure InS (K : Nat) (s : SrcT) : Prop where
  len : s.1.length ≤ 1048576
  p0 : 0 ≤ s.2.1
  p1 : s.2.1 ≤ (K : Int)
  s0 : 0 ≤ s.2.2
  s1 : s.2.2 < 2147483648
theorem InS.mono {K L : Nat} {s : SrcT} (h : InS K s) (hl : K ≤ L) : InS L s := ⟨h.len, h.p0, by have := h.p1; omega, h.s0, h.s1⟩
theorem tmod_r (x n : Int) (h0 : 0 ≤ x) (hn : 0 < n) : 0 ≤ x.tmod n ∧ x.tmod n < n := ⟨Int.tmod_nonneg _ h0, Int.tmod_lt_of_pos _ hn⟩
theorem byte_draw (N : Nat) {K : Nat} (hK : K ≤ 1000000000) {s : SrcT} (h : InS K s) : ∃ s' v, g_cq N s = some (s', v) ∧ InS (K + 1) s' ∧ 0 ≤ v ∧ v ≤ 255 := by
  obtain ⟨code, pos, seed⟩ := s
  obtain ⟨h1, h2, h3, h4, h5⟩ := h
  dsimp only at h1 h2 h3 h4 h5
  unfold g_cq
  dsimp only
  obtain ⟨p, rfl⟩ : ∃ p : Nat, pos = (p : Int) := ⟨pos.toNat, by omega⟩
  have e1 : wi ((p : Int) + 1) = ((p + 1 : Nat) : Int) := by rw [wi_of] <;> omega
  have e2 : wi (((p + 1 : Nat) : Int) - 1) = (p : Int) := by rw [wi_of] <;> omega
  rw [e1, e2]
  by_cases hp : p < code.length
  · have hb := (code[p]).toNat_lt
    simp (disch := omega) only [dec_t, cond_true, gd_true, Int.toNat_natCast, get_t, Option.bind_some, wi_u8, wi_of]
    have q := tmod_r (seed * 31 + (code[p].toNat : Int) + 7) 2147483648 (by omega) (by omega)
    exact ⟨_, _, rfl, ⟨h1, by dsimp only; omega, by dsimp only; omega, q.1, q.2⟩, by omega, by omega⟩
  · by_cases hq : 3000 < p + 1
    · simp (disch := omega) only [dec_t, dec_f, cond_true, cond_false, gd_true, Int.toNat_natCast, wi_u8, wi_of]
      exact ⟨_, _, rfl, ⟨h1, by dsimp only; omega, by dsimp only; omega, h4, h5⟩, by omega, by omega⟩
    · have q := tmod_r (seed * 1103515245 + 12345) 2147483648 (by omega) (by omega)
      have e3 : wi (wi (seed * 1103515245) + 12345) = seed * 1103515245 + 12345 := by rw [wi_of (x := seed * 1103515245) (by omega) (by omega), wi_of (by omega) (by omega)]
      rw [e3]
      generalize (seed * 1103515245 + 12345).tmod 2147483648 = z at q ⊢
      have q2 : z.tdiv 65536 = z / 65536 := Int.tdiv_eq_ediv_of_nonneg q.1
      have q3 := tmod_r (z / 65536) 256 (by omega) (by omega)
      simp (disch := omega) only [dec_t, dec_f, cond_false, gd_true, Int.toNat_natCast, wi_u8, wi_of, q2]
      exact ⟨_, _, rfl, ⟨h1, by dsimp only; omega, by dsimp only; omega, q.1, q.2⟩, q3.1, by omega⟩
theorem next_draw (N : Nat) {K : Nat} (hK : K ≤ 100000000) {s : SrcT} (h : InS K s) (n : Int) (h1 : 1 ≤ n) (h2 : n ≤ 1000000000) : ∃ s' v, g_cs N s n = some (s', v) ∧ InS (K + 3) s' ∧ 0 ≤ v ∧ v < n := by
  unfold g_cs
  by_cases e1 : n ≤ 1
  · rw [dec_t e1, cond_true]
    exact ⟨_, _, rfl, h.mono (by omega), by omega, by omega⟩
  · obtain ⟨s1, v1, d1, i1, a1, b1⟩ := byte_draw N (by omega) h
    rw [dec_f e1, cond_false, d1]
    by_cases e2 : n ≤ 256
    · have q := tmod_r v1 n a1 (by omega)
      simp (disch := omega) only [dec_t, cond_true, cond_false, Option.bind_some, wi_of, beq_fi]
      exact ⟨_, _, rfl, i1.mono (by omega), q.1, q.2⟩
    · obtain ⟨s2, v2, d2, i2, a2, b2⟩ := byte_draw N (by omega) i1
      obtain ⟨s3, v3, d3, i3, a3, b3⟩ := byte_draw N (by omega) i2
      have q := tmod_r (v1 * 65536 + v2 * 256 + v3) n (by omega) (by omega)
      simp (disch := omega) only [dec_f, cond_false, Option.bind_some, wi_of, beq_fi, d2, d3]
      exact ⟨_, _, rfl, i3, q.1, q.2⟩
theorem pick_draw (N : Nat) {K : Nat} (hK : K ≤ 100000000) {s : SrcT} (h : InS K s) (l : List (List UInt8)) (h1 : 1 ≤ l.length) (h2 : l.length ≤ 1000000000) : ∃ s' v, g_ct N s l = some (s', v) ∧ InS (K + 3) s' ∧ v ∈ l := by
  obtain ⟨s', v, d, i, a, b⟩ := next_draw N hK h (l.length : Int) (by omega) (by omega)
  have hv : v.toNat < l.length := by omega
  unfold g_ct
  simp (disch := omega) only [dec_t, cond_false, gd_true, get_t, Option.bind_some, beq_fi, d]
  exact ⟨_, _, rfl, i, List.getElem_mem hv⟩
theorem datum_draw (N : Nat) {K : Nat} (hK : K ≤ 100000000) {s : SrcT} (h : InS K s) : ∃ s' v, g_cr N s = some (s', v) ∧ InS (K + 3) s' ∧ v.length ≤ 16 := by
  unfold g_cr
  obtain ⟨s', v, d, i, m⟩ := pick_draw N hK h ([([] : List UInt8), ([97, 98, 99] : List UInt8), ([98, 108, 111, 99, 107, 32, 111, 102, 32, 100, 97, 116, 97] : List UInt8), ([48, 49, 50, 51, 52, 53, 54, 55, 56, 57, 97, 98, 99, 100, 101, 102] : List UInt8), ([120] : List UInt8)] : List (List UInt8)) (by simp) (by simp)
  rw [d]
  refine ⟨_, _, rfl, i, ?_⟩
  simp only [List.mem_cons, List.not_mem_nil, or_false] at m
  rcases m with rfl | rfl | rfl | rfl | rfl <;> simp
end Go.Vm
/- What is read of a disk is what was written last; behind a sync a crash changes nothing. -/
set_option linter.unusedVariables false
set_option maxRecDepth 100000
namespace Go.Vm
theorem source_ok (N : Nat) (code : List UInt8) (hc : code.length ≤ 1048576) : ∃ s, g_cp N code = some s ∧ InS 0 s := by
  unfold g_cp
  have q := tmod_r (code.length : Int) 1000 (by omega) (by omega)
  exact ⟨_, rfl, hc, by simp, by simp, q.1, by dsimp only; omega⟩
theorem at_draw (N : Nat) (more : List UInt8) (hm : more.length ≤ 1048576) (i n : Nat) (hi : i ≤ 1000) (h1 : 1 ≤ n) (h2 : n ≤ 2000000) : ∃ v, g_by N more (i : Int) (n : Int) = some v ∧ 0 ≤ v ∧ v < (n : Int) := by
  unfold g_by
  by_cases e1 : (n : Int) ≤ 1
  · rw [dec_t e1, cond_true]
    exact ⟨0, rfl, by omega, by omega⟩
  · rw [dec_f e1, cond_false]
    by_cases e2 : more.length = 0
    · have q := tmod_r ((i : Int) * 7) (n : Int) (by omega) (by omega)
      simp (disch := omega) only [cond_true, cond_false, nc1, wi_u8, wi_of, beq_ti, beq_fi]
      exact ⟨_, rfl, q.1, q.2⟩
    · have q1 := tmod_r (i : Int) (more.length : Int) (by omega) (by omega)
      have q2 := tmod_r ((i : Int) + 1) (more.length : Int) (by omega) (by omega)
      have q3 : (i : Int).tdiv (more.length : Int) = (i : Int) / (more.length : Int) := Int.tdiv_eq_ediv_of_nonneg (by omega)
      have q4 : 0 ≤ (i : Int) / (more.length : Int) := Int.ediv_nonneg (by omega) (by omega)
      have q5 : (i : Int) / (more.length : Int) ≤ i := Int.ediv_le_self _ (by omega)
      generalize hx : (i : Int).tmod (more.length : Int) = x at q1 ⊢
      generalize hy : ((i : Int) + 1).tmod (more.length : Int) = y at q2
      generalize hz : (i : Int) / (more.length : Int) = z at q3 q4 q5
      have lx : x.toNat < more.length := by omega
      have ly : y.toNat < more.length := by omega
      have b1 := (more[x.toNat]).toNat_lt
      have b2 := (more[y.toNat]).toNat_lt
      have hw : wi ((i : Int) + 1) = (i : Int) + 1 := by rw [wi_of] <;> omega
      have q := tmod_r ((more[x.toNat].toNat : Int) * 31 + (more[y.toNat].toNat : Int) + z) (n : Int) (by omega) (by omega)
      rw [hw, hy, q3]
      simp (disch := omega) only [dec_t, cond_false, gd_true, get_t, Option.bind_some, wi_u8, wi_of, beq_fi]
      exact ⟨_, rfl, q.1, q.2⟩
end Go.Vm
/- Banks: drawn requests are right. -/
set_option linter.unusedVariables false
set_option maxRecDepth 100000
namespace Go.Vm
theorem root_draw {N : Nat} (hN : 18446744073709551616 ≤ N) {K : Nat} (hK : K ≤ 100000000) {s : SrcT} (h : InS K s) : ∃ s' v, g_cu N s = some (s', v) ∧ InS (K + 3) s' ∧ v.length = 32 := by
  unfold g_cu
  obtain ⟨s1, v, e1, h1, _, _⟩ := next_draw N hK h 5 (by omega) (by omega)
  refine ⟨s1, sha [wb v], ?_, h1, sha_length _⟩
  simp only [e1, Option.bind_some, sHash hN [wb v] (by simp)]
end Go.Vm
/- Supers: written, read back; the blocks that are free. -/
set_option linter.unusedVariables false
set_option maxRecDepth 100000
namespace Go.Vm
theorem bytesN2 {x : Int} (h : 0 ≤ x) : bytesN 2 x = twoB x := by
  have e : x.tdiv 256 = x / 256 := Int.tdiv_eq_ediv_of_nonneg h
  unfold twoB
  rw [e, ← shr8]; rfl
theorem iTwo {x : Int} (h : 0 ≤ x) : g_ak N0 x 2 = some (twoB x) := by rw [← bytesN2 h]; exact bytesOf_eq hN0 x 2 (by omega)
def plB (p : PlcT) : List UInt8 := [wb p.1] ++ twoB p.2
def plsB (l : List PlcT) : List UInt8 := l.flatMap plB
theorem plsB_len : ∀ (l : List PlcT), (plsB l).length = 3 * l.length
  | [] => rfl
  | p :: l => by rw [plsB, List.flatMap_cons, List.length_append, ← plsB, plsB_len l]; simp [plB, twoB_length]; omega
/-- A super's bytes. -/
def supB (s : SupT) : List UInt8 := twoB s.1 ++ plsB s.2.1 ++ s.2.2
theorem iSupB_l3 (c : List PlcT) (hc : c.length ≤ 1000) (hp : ∀ p ∈ c, 0 ≤ p.2) (m4 : Int) (m5 : List PlcT) (m6 : List UInt8) : ∀ (n k : Nat) (m : List UInt8), c.length ≤ k + n - 1 → 0 < n → k ≤ c.length → m.length ≤ 1000000 + 3 * k →
    g_bq.l3 N0 n c (c.length : Int) m (k : Int) m4 m5 m6 = some (m ++ plsB (c.drop k), m4, m5, m6)
  | 0, _, _, _, h, _, _ => by omega
  | n + 1, k, m, hn, _, hk, hm => by
    unfold g_bq.l3
    by_cases h : k < c.length
    · have e2 := iTwo (hp c[k] (List.getElem_mem h))
      have ih := iSupB_l3 c hc hp m4 m5 m6 n (k + 1) (m ++ plB c[k]) (by omega) (by omega) (by omega) (by simp [plB, twoB_length]; omega)
      unfold plB at ih
      have e3 := twoB_length c[k].2
      rw [List.drop_eq_getElem_cons h, plsB, List.flatMap_cons, ← plsB]
      simp (disch := omega) only [dec_t, cond_true, gd_true, Int.toNat_natCast, get_t, Option.bind_some, bind_id, nc1, wi_of, List.length_append, List.length_cons, List.length_nil, iOne, e2, ih, plB, List.append_assoc]
    · simp (disch := omega) only [dec_t, dec_f, cond_false, gd_true, Int.toNat_natCast, bind_id, nc1, wi_of, List.length_append, List.drop_of_length_le, plsB, List.flatMap_nil, List.append_nil]
theorem sSupB_l3 (c : List PlcT) (hc : c.length ≤ 1000) (m1 : Int) (m3 : List UInt8) : ∀ (n k : Nat) (m : List UInt8), c.length ≤ k + n - 1 → 0 < n → k ≤ c.length → m.length ≤ 1000000 + 3 * k →
    g_dy.l3 N0 n (k : Int) m1 c m3 m = some (m1, c, m3, m ++ plsB (c.drop k))
  | 0, _, _, _, h, _, _ => by omega
  | n + 1, k, m, hn, _, hk, hm => by
    unfold g_dy.l3
    by_cases h : k < c.length
    · have ih := sSupB_l3 c hc m1 m3 n (k + 1) (m ++ plB c[k]) (by omega) (by omega) (by omega) (by simp [plB, twoB_length]; omega)
      unfold plB at ih
      have e3 := twoB_length c[k].2
      rw [List.drop_eq_getElem_cons h, plsB, List.flatMap_cons, ← plsB]
      rw [List.append_assoc] at ih
      simp (disch := omega) only [dec_t, cond_true, gd_true, Int.toNat_natCast, get_t, Option.bind_some, bind_id, nc1, wi_of, room_t, List.length_append, List.length_cons, List.length_nil, l08Two_eq, List.append_assoc, ih, plB]
    · simp (disch := omega) only [dec_t, dec_f, cond_false, gd_true, Int.toNat_natCast, bind_id, nc1, wi_of, room_t, List.length_append, List.length_cons, List.length_nil, List.drop_of_length_le, plsB, List.flatMap_nil, List.append_nil]
theorem okPs_mem : ∀ (l : List PlcT) (m : List Int), okPs m l = true → ∀ p ∈ l, (2 ≤ p.1 ∧ p.1 ≤ 63) ∧ p.1 ∉ m ∧ (1 ≤ p.2 ∧ p.2 ≤ 65535)
  | [], _, _, p, hp => by simp at hp
  | q :: l, m, h, p, hp => by
    simp only [okPs, inB, Bool.and_eq_true, decide_eq_true_eq, Bool.not_eq_true', List.contains_eq_mem, decide_eq_false_iff_not] at h
    obtain ⟨h1, h2, h3, h4⟩ := h
    rcases List.mem_cons.1 hp with rfl | hp
    · exact ⟨h1, h2, h3⟩
    · obtain ⟨a, b, c⟩ := okPs_mem l _ h4 p hp
      exact ⟨a, fun hm => b (List.mem_cons_of_mem _ hm), c⟩
theorem okSup_ps {s : SupT} (h : okSup s = true) : okPs [] s.2.1 = true ∧ (s.2.1.length : Int) = (s.1 + 63) / 64 := by
  simp only [okSup, Bool.and_eq_true, decide_eq_true_eq] at h
  exact ⟨h.2.2.2, h.2.1⟩
theorem iSuperBytes {s : SupT} (h : okSup s = true) : g_ag N0 s = some (supB s, 0) := by
  obtain ⟨r1, r2, r3⟩ := okSup_len h
  obtain ⟨p1, p2⟩ := okSup_ps h
  have hl : s.2.1.length ≤ 1000 := by omega
  have e := iSupB_l3 s.2.1 hl (fun p hp => by have := (okPs_mem _ _ p1 p hp).2.2; omega) s.1 s.2.1 s.2.2 N0 0 (twoB s.1) (by unfold N0; omega) (by decide) (by omega) (by rw [twoB_length]; omega)
  rw [Int.natCast_zero, List.drop_zero] at e
  have q1 := twoB_length s.1
  have q2 := plsB_len s.2.1
  have e0 := SuperOK_eq hN0 s (by omega) (by omega)
  rw [h] at e0
  have e2 := iTwo (x := s.1) (by omega)
  unfold g_ag g_bq supB
  simp (disch := omega) only [dec_t, cond_false, gd_true, Bool.not_true, Option.bind_some, List.length_append, e0, e2, e]
theorem sSuperBytes {s : SupT} (h : okSup s = true) : g_cm N0 s = some (supB s, 0) := by
  obtain ⟨r1, r2, r3⟩ := okSup_len h
  obtain ⟨p1, p2⟩ := okSup_ps h
  have hl : s.2.1.length ≤ 1000 := by omega
  have e := sSupB_l3 s.2.1 hl s.1 s.2.2 N0 0 (twoB s.1) (by unfold N0; omega) (by decide) (by omega) (by rw [twoB_length]; omega)
  rw [Int.natCast_zero, List.drop_zero] at e
  have q1 := twoB_length s.1
  have q2 := plsB_len s.2.1
  have e0 := sSuperOK_eq hN0 s (by omega) (by omega)
  rw [h] at e0
  unfold g_cm g_dy supB
  simp (disch := omega) only [cond_false, gd_true, Bool.not_true, Option.bind_some, room_t, List.length_append, e0, l08Two_eq, e]
theorem rdPlc_plB (p : PlcT) (rest : List UInt8) (h : (2 ≤ p.1 ∧ p.1 ≤ 63) ∧ (1 ≤ p.2 ∧ p.2 ≤ 65535)) : rdPlc (plB p ++ rest) = p := by
  have e1 : (plB p ++ rest).take 1 = [wb p.1] := by simp [plB]
  have e2 : ((plB p ++ rest).drop 1).take 2 = twoB p.2 := by simp [plB, twoB]
  unfold rdPlc
  rw [e1, e2, numB_one (by omega), numB_twoB (by omega)]
theorem plcs_plsB : ∀ (l : List PlcT) (rest : List UInt8), (∀ p ∈ l, (2 ≤ p.1 ∧ p.1 ≤ 63) ∧ (1 ≤ p.2 ∧ p.2 ≤ 65535)) → plcsOf l.length (plsB l ++ rest) = l
  | [], _, _ => rfl
  | p :: l, rest, h => by
    have e : plsB (p :: l) ++ rest = plB p ++ (plsB l ++ rest) := by rw [plsB, List.flatMap_cons, List.append_assoc]; rfl
    have e2 : (plB p ++ (plsB l ++ rest)).drop 3 = plsB l ++ rest := by simp [plB, twoB]
    rw [List.length_cons, plcsOf, e, e2, rdPlc_plB p _ (h p (by simp)), plcs_plsB l rest fun q hq => h q (by simp [hq])]
/-- What was written is read back. -/
theorem rdSup_supB {s : SupT} (h : okSup s = true) : rdSup (supB s) = (s, 0) := by
  obtain ⟨r1, r2, r3⟩ := okSup_len h
  obtain ⟨p1, p2⟩ := okSup_ps h
  have q2 := plsB_len s.2.1
  have hl : (supB s).length = 34 + 3 * s.2.1.length := by
    unfold supB; rw [List.length_append, List.length_append, twoB_length, q2, r1]; omega
  have t1 : (supB s).take 2 = twoB s.1 := by unfold supB; rw [List.append_assoc]; exact List.take_left' rfl
  have t2 : (supB s).drop 2 = plsB s.2.1 ++ s.2.2 := by unfold supB; rw [List.append_assoc]; exact List.drop_left' rfl
  have n1 : ((numB (twoB s.1) : Nat) : Int) = s.1 := numB_twoB (by omega)
  have n2 : (numB (twoB s.1) + 63) / 64 = s.2.1.length := by omega
  have t3 : (supB s).drop (2 + 3 * s.2.1.length) = s.2.2 := by
    rw [← List.drop_drop, t2]; exact List.drop_left' q2
  have e : supOf (supB s) = s := by
    unfold supOf
    rw [t1, n2, n1, t2, t3, plcs_plsB s.2.1 s.2.2 fun p hp => by obtain ⟨a, _, c⟩ := okPs_mem _ _ p1 p hp; exact ⟨a, c⟩]
  unfold rdSup
  rw [if_neg (by omega), if_pos ⟨by rw [t1, n2, hl], by rw [e]; exact h⟩, e]
/-- The free blocks: j of them from k on. -/
def frF (ps : List PlcT) : Nat → Nat → List Int
  | 0, _ => []
  | j + 1, k => (bif ps.any (fun p => p.1 == (k : Int)) then [] else [(k : Int)]) ++ frF ps j (k + 1)
theorem isFree (ps : List PlcT) (hp : ps.length ≤ 1000000) (b : Int) : g_cd N0 ps b = some (ps.any (fun p => p.1 == b)) := by
  have key : ∀ (n k : Nat), ps.length ≤ k + n - 1 → 0 < n → k ≤ ps.length → ∃ i : Nat, g_cg.l2 N0 n ps (ps.length : Int) b (k : Int) = some (bif (ps.drop k).any (fun p => p.1 == b) then .inl (b, (i : Int)) else .inr b) := by
    intro n
    induction n with
    | zero => intro k _ h; omega
    | succ n ih =>
      intro k hn _ hk
      unfold g_cg.l2 g_aj
      by_cases h : k < ps.length
      · obtain ⟨i, e⟩ := ih (k + 1) (by omega) (by omega) (by omega)
        rw [List.drop_eq_getElem_cons h, List.any_cons]
        cases q : ps[k].1 == b
        · exact ⟨i, by simp (disch := omega) only [dec_t, cond_true, cond_false, gd_true, Int.toNat_natCast, get_t, Option.bind_some, bind_id, nc1, wi_of, q, e, Bool.false_or]⟩
        · exact ⟨k, by simp (disch := omega) only [dec_t, cond_true, gd_true, Int.toNat_natCast, get_t, Option.bind_some, bind_id, nc1, wi_of, q, Bool.true_or]⟩
      · exact ⟨0, by simp (disch := omega) only [dec_t, dec_f, cond_false, gd_true, Int.toNat_natCast, Option.bind_some, bind_id, nc1, wi_of, List.drop_of_length_le, List.any_nil]⟩
  obtain ⟨i, e⟩ := key N0 0 (by unfold N0; omega) (by decide) (by omega)
  rw [Int.natCast_zero, List.drop_zero] at e
  unfold g_cd g_cg
  rw [e]
  cases ps.any (fun p => p.1 == b)
  · rfl
  · simp (disch := omega) only [dec_t, cond_true, alt_inl, Option.bind_some]
theorem free_l3 (ps : List PlcT) (hp : ps.length ≤ 1000000) (m1 : Int) (m3 : List UInt8) : ∀ (j k n : Nat) (acc : List Int), k + j = 64 → j < n → acc.length ≤ k →
    g_ai.l3 N0 n 64 m1 ps m3 (k : Int) acc = some (acc ++ frF ps j k)
  | 0, k, n, acc, hk, hn, ha => by
    obtain ⟨n, rfl⟩ : ∃ x, n = x + 1 := ⟨n - 1, by omega⟩
    unfold g_ai.l3
    simp (disch := omega) only [dec_f, cond_false, gd_true, bind_id, nc1, wi_of, room_t, List.length_cons, List.length_nil, frF, List.append_nil]
  | j + 1, k, n, acc, hk, hn, ha => by
    obtain ⟨n, rfl⟩ : ∃ x, n = x + 1 := ⟨n - 1, by omega⟩
    unfold g_ai.l3
    rw [isFree ps hp, frF]
    cases ps.any (fun p => p.1 == (k : Int))
    · have ih := free_l3 ps hp m1 m3 j (k + 1) n (acc ++ [(k : Int)]) (by omega) (by omega) (by simp; omega)
      simp (disch := omega) only [dec_t, cond_true, cond_false, gd_true, Bool.not_false, Option.bind_some, bind_id, nc1, wi_of, room_t, List.length_cons, List.length_nil, ih, List.append_assoc]
    · have ih := free_l3 ps hp m1 m3 j (k + 1) n acc (by omega) (by omega) (by omega)
      simp (disch := omega) only [dec_t, cond_true, cond_false, gd_true, Bool.not_true, Option.bind_some, bind_id, nc1, wi_of, room_t, List.length_cons, List.length_nil, ih, List.nil_append]
/-- How many blocks from k on are borne. -/
def cnF (ps : List PlcT) : Nat → Nat → Nat
  | 0, _ => 0
  | j + 1, k => (bif ps.any (fun p => p.1 == (k : Int)) then 1 else 0) + cnF ps j (k + 1)
theorem fr_cn (ps : List PlcT) : ∀ (j k : Nat), (frF ps j k).length + cnF ps j k = j
  | 0, _ => rfl
  | j + 1, k => by
    have := fr_cn ps j (k + 1)
    rw [frF, cnF, List.length_append]
    cases ps.any (fun p => p.1 == (k : Int)) <;> simp <;> omega
theorem cn_nil : ∀ (j k : Nat), cnF [] j k = 0
  | 0, _ => rfl
  | j + 1, k => by rw [cnF, cn_nil j (k + 1)]; rfl
theorem cn_cons (p : PlcT) (l : List PlcT) (hp : ∀ q ∈ l, q.1 ≠ p.1) : ∀ (j k : Nat), cnF (p :: l) j k = cnF l j k + (if (k : Int) ≤ p.1 ∧ p.1 < ((k + j : Nat) : Int) then 1 else 0)
  | 0, k => by rw [if_neg (by omega)]; rfl
  | j + 1, k => by
    have ih := cn_cons p l hp j (k + 1)
    rw [cnF, cnF, ih, List.any_cons]
    by_cases e : p.1 = (k : Int)
    · have e2 : l.any (fun q => q.1 == (k : Int)) = false := by
        rw [Bool.eq_false_iff]; intro h
        obtain ⟨q, hq, hqe⟩ := List.any_eq_true.1 h
        exact hp q hq ((beq_iff_eq.1 hqe).trans e.symm)
      rw [e2, beq_iff_eq.2 e, if_neg (by omega), if_pos (by omega)]
      simp only [Bool.true_or, cond_true, cond_false]; omega
    · have e1 : (p.1 == (k : Int)) = false := by simpa using e
      rw [e1, Bool.false_or]
      by_cases q : ((k + 1 : Nat) : Int) ≤ p.1 ∧ p.1 < ((k + 1 + j : Nat) : Int)
      · rw [if_pos q, if_pos (by omega)]; omega
      · rw [if_neg q, if_neg (by omega)]; omega
theorem cn_ok : ∀ (l : List PlcT) (m : List Int), okPs m l = true → cnF l 62 2 = l.length
  | [], _, _ => cn_nil 62 2
  | p :: l, m, h => by
    have h0 := okPs_mem _ _ h p (by simp)
    have h4 : okPs (p.1 :: m) l = true := by
      simp only [okPs, Bool.and_eq_true] at h
      exact h.2.2.2
    rw [cn_cons p l (fun q hq e => (okPs_mem l _ h4 q hq).2.1 (by simp [e])), cn_ok l _ h4, if_pos (by omega), List.length_cons]
theorem frF_not (ps : List PlcT) {p : PlcT} (hp : p ∈ ps) : ∀ (j k : Nat), p.1 ∉ frF ps j k
  | 0, _ => by simp [frF]
  | j + 1, k => by
    rw [frF, List.mem_append, not_or]
    refine ⟨?_, frF_not ps hp j (k + 1)⟩
    cases q : ps.any (fun p => p.1 == (k : Int))
    · simp only [cond_false, List.mem_singleton]
      intro e
      rw [Bool.eq_false_iff] at q
      exact q (List.any_eq_true.2 ⟨p, hp, by simp [e]⟩)
    · simp
theorem iFree {s : SupT} (h : okSup s = true) : g_ac N0 s 64 = some (frF s.2.1 62 2, 0) := by
  obtain ⟨r1, r2, r3⟩ := okSup_len h
  obtain ⟨p1, p2⟩ := okSup_ps h
  have e0 := SuperOK_eq hN0 s (by omega) (by omega)
  rw [h] at e0
  have e := free_l3 s.2.1 (by omega) s.1 s.2.2 62 2 N0 [] (by omega) (by decide) (by simp)
  rw [List.nil_append] at e
  unfold g_ac g_ai
  rw [show ((2 : Nat) : Int) = 2 from rfl] at e
  simp (disch := omega) only [dec_t, cond_false, Bool.not_true, Bool.and_self, Option.bind_some, bind_id, e0, within_eq, e]
end Go.Vm
/- The law FnSupers. -/
set_option linter.unusedVariables false
set_option maxRecDepth 100000
namespace Go.Vm
theorem hasIntL (x : Int) (c : List Int) (hc : c.length ≤ 1000000) : ∀ (n k : Nat), c.length ≤ k + n - 1 → 0 < n → k ≤ c.length → g_bz.l2 N0 n c x (k : Int) = some (bif (c.drop k).any (· == x) then .inl true else .inr ())
  | 0, _, _, h, _ => by omega
  | n + 1, k, hn, _, hk => by
    unfold g_bz.l2
    by_cases h : k < c.length
    · rw [drop_get h, List.any_cons]
      simp (disch := omega) only [dec_t, cond_true, gd_true, Int.toNat_natCast, get_t, Option.bind_some, bind_id, nc1, wi_of, hasIntL x c hc n (k + 1)]
      cases c[k] == x <;> rfl
    · simp (disch := omega) only [dec_t, dec_f, cond_false, gd_true, Int.toNat_natCast, bind_id, nc1, wi_of, List.drop_of_length_le, List.any_nil]
theorem hasInt_no {c : List Int} {x : Int} (hc : c.length ≤ 1000000) (h : x ∉ c) : g_bz N0 c x = some false := by
  have e := hasIntL x c hc N0 0 (by unfold N0; omega) (by decide) (by omega)
  rw [Int.natCast_zero, List.drop_zero] at e
  have q : c.any (· == x) = false := by
    rw [Bool.eq_false_iff]; intro hc
    obtain ⟨y, hy, hyx⟩ := List.any_eq_true.1 hc
    exact h ((beq_iff_eq.1 hyx) ▸ hy)
  unfold g_bz
  rw [e, q]; rfl
theorem super_l3 : ∀ (n i K T : Nat) (s : SrcT) (m4 : Int) (m5 : List UInt8) (m6 : Int) (m7 : List UInt8) (acc : List PlcT), i < n → K + 6 * i ≤ 10000 → InS K s → acc.length + i ≤ 1000 → g_dz N0 m6 = some ((T + i : Nat) : Int) → T + i ≤ 100 →
    ∃ s' l, g_cv.l3 N0 n (T : Int) s.1 s.2.1 s.2.2 m4 m5 m6 m7 acc = some (s'.1, s'.2.1, s'.2.2, m4, m5, m6, m7, l) ∧ InS (K + 6 * i) s' ∧ l.length ≤ 1000
  | 0, _, _, _, _, _, _, _, _, _, h, _, _, _, _, _ => by omega
  | n + 1, 0, K, T, s, m4, m5, m6, m7, acc, _, hK, hs, ha, hc, hT => by
    unfold g_cv.l3
    rw [hc, Nat.add_zero]
    exact ⟨s, acc, by simp (disch := omega) only [dec_f, cond_false, gd_true, Option.bind_some, bind_id, nc1, wi_of, room_t, List.length_cons, List.length_nil], hs.mono (by omega), by omega⟩
  | n + 1, i + 1, K, T, s, m4, m5, m6, m7, acc, h, hK, hs, ha, hc, hT => by
    unfold g_cv.l3
    obtain ⟨s1, v1, e1, h1, a1, b1⟩ := next_draw N0 (by omega) hs 3 (by omega) (by omega)
    obtain ⟨s2, v2, e2, h2, a2, b2⟩ := next_draw N0 (by omega) h1 9 (by omega) (by omega)
    obtain ⟨s3, l, e3, h3, l3⟩ := super_l3 n i (K + 3 + 3) (T + 1) s2 m4 m5 m6 m7 (acc ++ [(wi (wi (2 + (wi (wi ((T : Int) * 5) + v1)).tmod 40) + (wi (3 * (T : Int))).tmod 7), wi (1 + v2))]) (by omega) (by omega) h2 (by simp; omega) (by rw [hc]; congr 1; omega) (by omega)
    refine ⟨s3, l, ?_, h3.mono (by omega), l3⟩
    have et : wi ((T : Int) + 1) = ((T + 1 : Nat) : Int) := by rw [wi_of (by omega) (by omega)]; omega
    have r : roomOK (acc.length + 1) 16 = true := by unfold roomOK; rw [decide_eq_true_eq]; omega
    rw [hc, Option.bind_some, dec_t (show (T : Int) < ((T + (i + 1) : Nat) : Int) by omega), cond_true]
    have e1' : g_cs N0 (s.1, s.2.1, s.2.2) 3 = some (s1, v1) := e1
    rw [e1', Option.bind_some]
    dsimp only
    rw [e2, Option.bind_some]
    dsimp only
    rw [List.length_singleton, r, gd_true, et, e3]; rfl
theorem super_draw {s : SrcT} (h : InS 0 s) : ∃ s' x, g_cv N0 s = some (s', x) ∧ (1 ≤ x.1 ∧ x.1 ≤ 300) ∧ x.2.1.length ≤ 1000 := by
  obtain ⟨s1, v1, e1, h1, a1, b1⟩ := next_draw N0 (by omega) h 300 (by omega) (by omega)
  obtain ⟨s2, v2, e2, h2, a2⟩ := root_draw hN0 (by omega) h1
  have w : wi (1 + v1) = 1 + v1 := wi_of (by omega) (by omega)
  obtain ⟨c, hc⟩ : ∃ c : Nat, ((1 + v1 + 63) / 64 : Int) = (c : Int) := ⟨((1 + v1 + 63) / 64).toNat, by omega⟩
  have ec := count_eq N0 (1 + v1) (by omega)
  rw [hc] at ec
  obtain ⟨s3, l, e3, h3, l3⟩ := super_l3 N0 c (0 + 3 + 3) 0 s2 0 [] (1 + v1) v2 [] (by unfold N0; omega) (by omega) h2 (by simp; omega) (by rw [Nat.zero_add]; exact ec) (by omega)
  rw [Int.natCast_zero] at e3
  refine ⟨s3, (1 + v1, l, v2), ?_, ⟨by dsimp only; omega, by dsimp only; omega⟩, l3⟩
  unfold g_cv
  rw [e1, Option.bind_some]
  dsimp only
  rw [e2, Option.bind_some]
  dsimp only
  rw [w, e3]; rfl
theorem superOf_ok (code : List UInt8) (hc : code.length ≤ 1048576) : ∃ s, g_co N0 code = some s ∧ okSup s = true := by
  obtain ⟨s, e1, h⟩ := source_ok N0 code hc
  obtain ⟨s', x, e2, b1, b2⟩ := super_draw h
  have e3 := sSuperOK_eq hN0 x (by omega) (by omega)
  have e4 := sHash hN0 [] (by simp)
  unfold g_co
  rw [e1, Option.bind_some, e2, Option.bind_some]
  dsimp only
  rw [e3, Option.bind_some]
  cases q : okSup x
  · refine ⟨(3, [(5, 2)], sha []), ?_, ?_⟩
    · rw [Bool.not_false, cond_true, e4]; rfl
    · have hl := sha_length []
      simp only [okSup, okPs, hl, inB, List.length_singleton, List.contains_nil]
      decide
  · exact ⟨x, rfl, q⟩
theorem sup_l13 (c0 : List UInt8) (m2 : Int) (m3 : List UInt8) (m4 : Int) (m5 : List UInt8) (fr : List Int) (ps : List PlcT) (hf : fr.length ≤ 1000000) (hp : ps.length ≤ 1000000) (hn : ∀ p ∈ ps, p.1 ∉ fr) : ∀ (n k : Nat), ps.length ≤ k + n - 1 → 0 < n → k ≤ ps.length →
    g_bx.l13 N0 n c0 (k : Int) m2 m3 m4 m5 fr ps ps = some (.inr ())
  | 0, _, _, h, _ => by omega
  | n + 1, k, h1, _, hk => by
    unfold g_bx.l13
    by_cases h : k < ps.length
    · have e := hasInt_no hf (hn ps[k] (List.getElem_mem h))
      have ih := sup_l13 c0 m2 m3 m4 m5 fr ps hf hp hn n (k + 1) (by omega) (by omega) (by omega)
      simp (disch := omega) only [dec_t, cond_true, cond_false, gd_true, Bool.not_true, Bool.and_self, Int.toNat_natCast, get_t, Option.bind_some, bind_id, nc1, wi_of, beq_self_eq_true, e, ih]
    · simp (disch := omega) only [dec_t, dec_f, cond_false, gd_true, Int.toNat_natCast, bind_id, nc1, wi_of]
theorem keyOf_eq : g_cj N0 () = some (sha [107, 101, 121]) := by
  unfold g_cj
  rw [sHash hN0 _ (by simp)]; rfl
theorem datumOf_ok (more : List UInt8) (hm : more.length ≤ 1048576) : ∃ v, g_ci N0 more = some v ∧ v.length ≤ 16 := by
  obtain ⟨s, e1, h⟩ := source_ok N0 more hm
  obtain ⟨s', v, e2, _, l⟩ := datum_draw N0 (by omega) h
  refine ⟨v, ?_, l⟩
  unfold g_ci
  rw [e1, Option.bind_some, e2]; rfl
theorem FnSupers_true (code more : List UInt8) : g_bx N0 code more = some true := by
  unfold g_bx
  by_cases q0 : code.length > 1048576
  · simp (disch := omega) only [dec_t, cond_true]
  by_cases q1 : more.length > 1048576
  · simp (disch := omega) only [dec_t, dec_f, cond_true, cond_false]
  obtain ⟨s, e1, ok⟩ := superOf_ok code (by omega)
  obtain ⟨p1, p2⟩ := okSup_ps ok
  obtain ⟨r1, r2, r3⟩ := okSup_len ok
  have e2 := iSuperBytes ok
  have e3 := sSuperBytes ok
  have e4 := iReadSuper_eq hN0 (supB s)
  rw [rdSup_supB ok] at e4
  have e5 := SuperOK_eq hN0 s (by omega) (by omega)
  rw [ok] at e5
  have e6 := iFree ok
  have l1 := fr_cn s.2.1 62 2
  have l2 := cn_ok s.2.1 [] p1
  have e7 := sup_l13 more s.1 s.2.2 s.1 s.2.2 (frF s.2.1 62 2) s.2.1 (by omega) (by omega) (fun p hp => frF_not s.2.1 hp 62 2) N0 0 (by unfold N0; omega) (by decide) (by omega)
  rw [Int.natCast_zero] at e7
  obtain ⟨pl, f1, f2, f3⟩ := at_draw N0 more (by omega) 0 16 (by omega) (by omega) (by omega)
  obtain ⟨ve, g1, g2, g3⟩ := at_draw N0 more (by omega) 1 1000 (by omega) (by omega) (by omega)
  obtain ⟨da, d1, d2⟩ := datumOf_ok more (by omega)
  have f1' : g_by N0 more 0 16 = some pl := f1
  have g1' : g_by N0 more 1 1000 = some ve := g1
  have kl := sha_length [107, 101, 121]
  have w1 : wi (1 + ve) = 1 + ve := wi_of (by omega) (by omega)
  have w2 : wi (1 + ve + 1) = 1 + ve + 1 := wi_of (by omega) (by omega)
  have bl : (([112, 105, 101, 99, 101] : List UInt8) ++ da).length = 5 + da.length := by rw [List.length_append]; rfl
  have w3 : wi (((frF s.2.1 62 2).length : Int) + (s.2.1.length : Int)) = 62 := by rw [wi_of (by omega) (by omega)]; omega
  obtain ⟨b, hb⟩ : ∃ b, b = ([112, 105, 101, 99, 101] : List UInt8) ++ da := ⟨_, rfl⟩
  rw [← hb] at bl
  have k1 := iSealPiece (key := sha [107, 101, 121]) (place := pl) (v := 1 + ve) (b := b) kl (by omega) (by omega) (by omega)
  have k2 := sSealPiece (key := sha [107, 101, 121]) (place := pl) (v := 1 + ve) (b := b) kl (by omega) (by omega) (by omega)
  have tl := pcF_len (sha [107, 101, 121]) pl (1 + ve) b
  have k3 := iOpenPiece (key := sha [107, 101, 121]) (place := pl) (v := 1 + ve) (t := pcF (sha [107, 101, 121]) pl (1 + ve) b) kl (by omega) (by omega) (by omega)
  rw [opF_seal _ _ _ (show 1 ≤ b.length ∧ b.length ≤ 64 by omega)] at k3
  have k4 := iOpenPiece (key := sha [107, 101, 121]) (place := pl) (v := 1 + ve + 1) (t := pcF (sha [107, 101, 121]) pl (1 + ve) b) kl (by omega) (by omega) (by omega)
  have k5 := sOpenPiece (key := sha [107, 101, 121]) (place := pl) (v := 1 + ve + 1) (t := pcF (sha [107, 101, 121]) pl (1 + ve) b) kl (by omega) (by omega) (by omega)
  generalize opF (sha [107, 101, 121]) pl (1 + ve + 1) (pcF (sha [107, 101, 121]) pl (1 + ve) b) = o at k4 k5
  generalize pcF (sha [107, 101, 121]) pl (1 + ve) b = t at k1 k2 k3 k4 k5 tl
  rw [dec_f (show ¬ (code.length : Int) > 1048576 by omega), cond_false, dec_f (show ¬ (more.length : Int) > 1048576 by omega), cond_false]
  simp (disch := omega) only [dec_t, cond_true, cond_false, gd_true, alt_inr, Bool.not_true, Option.bind_some, wi_of, bne_fi, e1, e2, e3, e4, e5, e6, e7, bne_self_eq_false, beq_self_eq_true, f1', g1', d1, keyOf_eq, ← hb, k1, k2, k3, k4, k5]
theorem law_FnSupers (code more : List UInt8) {p q : Prop} (_ : p) (_ : q) : ∃ N, g_bx N code more = some true := ⟨N0, FnSupers_true code more⟩
end Go.Vm

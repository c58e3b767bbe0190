/- A part of the proof: an abstract machine, mirrors and their laws, one text behind the other. -/
import Derived.Test.YtfphingbjjhjcaaGreatVB5
/- The laws' own helpers, printed by a program of ours. -/
set_option linter.unusedVariables false
set_option maxRecDepth 100000
namespace Go.Vm
abbrev bdStringS (n : Nat) (x : List (List UInt8)) : Prop := x.length ≤ n ∧ ∀ y ∈ x, (y).length ≤ n
theorem bdStringS_mono {n m : Nat} (hm : n ≤ m) {x : List (List UInt8)} (h : bdStringS n x) : bdStringS m x := ⟨Nat.le_trans h.1 hm, fun y hy => Nat.le_trans (h.2 y hy) hm⟩
abbrev bdPending (n : Nat) (x : Int × List UInt8) : Prop := (x.2).length ≤ n
theorem bdPending_mono {n m : Nat} (hm : n ≤ m) {x : Int × List UInt8} (h : bdPending n x) : bdPending m x := Nat.le_trans h hm
abbrev bdPendingS (n : Nat) (x : List (Int × List UInt8)) : Prop := x.length ≤ n ∧ ∀ y ∈ x, bdPending n y
theorem bdPendingS_mono {n m : Nat} (hm : n ≤ m) {x : List (Int × List UInt8)} (h : bdPendingS n x) : bdPendingS m x := ⟨Nat.le_trans h.1 hm, fun y hy => bdPending_mono hm (h.2 y hy)⟩
abbrev bdDisk (n : Nat) (x : List (List UInt8) × List (Int × List UInt8) × List (List UInt8)) : Prop := bdStringS n x.1 ∧ bdPendingS n x.2.1 ∧ bdStringS n x.2.2
theorem bdDisk_mono {n m : Nat} (hm : n ≤ m) {x : List (List UInt8) × List (Int × List UInt8) × List (List UInt8)} (h : bdDisk n x) : bdDisk m x := ⟨bdStringS_mono hm h.1, bdPendingS_mono hm h.2.1, bdStringS_mono hm h.2.2⟩
theorem toStringS_l (N n : Nat) (c ys : List (List UInt8)) (k : Int) : g_cg.l3 N n c k ys = toL2 some n c k ys := by
  induction n generalizing k ys with
  | zero => rfl
  | succ n ih => simp only [g_cg.l3, toL2, ih, Option.bind_some]
theorem toStringS_eq {N : Nat} (hN : 18446744073709551616 ≤ N) (c : List (List UInt8)) (h : bdStringS 1000000000 c) : g_cg N c = some c := by
  have hl : c.length ≤ 1000000000 := h.1
  unfold g_cg
  simp (disch := omega) only [toStringS_l, dec_t, gd_true, Bool.and_self, Int.toNat_natCast, bind_id, room_t]
  rw [show (0 : Int) = ((0 : Nat) : Int) from rfl, toL2_eq (p := some) (f := id) N c 0 _ (fun _ _ => rfl) (by omega) (by omega) (by omega) (by omega) (by simp)]
  simp
theorem toPending_eq {N : Nat} (hN : 18446744073709551616 ≤ N) (c : Int × List UInt8) (h : bdPending 1000000000 c) : g_ce N c = some c := rfl
theorem toPendingS_l (N n : Nat) (c ys : List (Int × List UInt8)) (k : Int) : g_cf.l3 N n c k ys = toL2 (g_ce N) n c k ys := by
  induction n generalizing k ys with
  | zero => rfl
  | succ n ih => simp only [g_cf.l3, toL2, ih]
theorem toPendingS_eq {N : Nat} (hN : 18446744073709551616 ≤ N) (c : List (Int × List UInt8)) (h : bdPendingS 1000000000 c) : g_cf N c = some c := by
  have hl : c.length ≤ 1000000000 := h.1
  unfold g_cf
  simp (disch := omega) only [toPendingS_l, dec_t, gd_true, Bool.and_self, Int.toNat_natCast, bind_id, room_t]
  rw [show (0 : Int) = ((0 : Nat) : Int) from rfl, toL2_eq (p := (g_ce N)) (f := id) N c 0 _ (fun x hx => toPending_eq hN x (h.2 x hx)) (by omega) (by omega) (by omega) (by omega) (by simp)]
  simp
theorem toDisk_eq {N : Nat} (hN : 18446744073709551616 ≤ N) (c : List (List UInt8) × List (Int × List UInt8) × List (List UInt8)) (h : bdDisk 1000000000 c) : g_cd N c = some c := by
  unfold g_cd
  simp only [toStringS_eq hN c.1 h.1, toPendingS_eq hN c.2.1 h.2.1, toStringS_eq hN c.2.2 h.2.2, Option.bind_some]
theorem szStringS_l (N n : Nat) (c : List (List UInt8)) (m k : Int) : g_cc.l5 N n c m k = szL (fun (e : List UInt8) m => some (wi (m - (e.length : Int)))) n c m k := by
  induction n generalizing m k with
  | zero => rfl
  | succ n ih => simp only [g_cc.l5, szL, ih, Option.bind_some]
theorem szStringS_eq {N : Nat} (hN : 18446744073709551616 ≤ N) (c : List (List UInt8)) (left : Int) (h0 : 0 ≤ left) (hl : left ≤ 1048576) (h : bdStringS 9223372036854775807 c) : ∃ r : Int, g_cc N c left = some r ∧ (0 ≤ r → r ≤ left ∧ bdStringS 1048576 c) := by
  have hh : c.length ≤ 9223372036854775807 := h.1
  unfold g_cc
  by_cases q : left - (c.length : Int) < 0
  · exact ⟨-1, by simp (disch := omega) only [dec_t, cond_true, wi_of], fun h => absurd h (by omega)⟩
  · have key := szL_eq (p := (fun (e : List UInt8) m => some (wi (m - (e.length : Int))))) (Q := fun x => (x).length ≤ 1048576) (R := fun x => (x).length ≤ 9223372036854775807) N c 0 (left - (c.length : Int)) (fun x _ hx l h0 hl => ⟨l - (x.length : Int), by rw [wi_of (by omega) (by omega)], fun _ => ⟨by omega, by omega⟩⟩) h.2 (by omega) (by omega) (by omega) (by omega) (by omega) (by omega)
    rw [Int.natCast_zero] at key
    rcases key with e | ⟨m, e, k1, k2, k3⟩
    · exact ⟨-1, by simp (disch := omega) only [dec_f, cond_false, alt_inl, Option.bind_some, wi_of, szStringS_l, e], fun h => absurd h (by omega)⟩
    · exact ⟨m, by simp (disch := omega) only [dec_f, cond_false, alt_inr, Option.bind_some, wi_of, szStringS_l, e], fun _ => ⟨by omega, by omega, by simpa using k3⟩⟩
theorem szPending_eq {N : Nat} (hN : 18446744073709551616 ≤ N) (c : Int × List UInt8) (left : Int) (h0 : 0 ≤ left) (hl : left ≤ 1048576) (h : bdPending 9223372036854775807 c) : ∃ r : Int, g_ca N c left = some r ∧ (0 ≤ r → r ≤ left ∧ bdPending 1048576 c) := by
  unfold g_ca
  have b0 : c.2.length ≤ 9223372036854775807 := h
  by_cases q0 : left - (c.2.length : Int) < 0
  · exact ⟨-1, by simp (disch := omega) only [dec_t, cond_true, wi_of], fun h => absurd h (by omega)⟩
  exact ⟨left - (c.2.length : Int), by simp (disch := omega) only [dec_f, cond_false, wi_of], fun _ => ⟨by omega, by omega⟩⟩
theorem szPendingS_l (N n : Nat) (c : List (Int × List UInt8)) (m k : Int) : g_cb.l5 N n c m k = szL (g_ca N) n c m k := by
  induction n generalizing m k with
  | zero => rfl
  | succ n ih => simp only [g_cb.l5, szL, ih]
theorem szPendingS_eq {N : Nat} (hN : 18446744073709551616 ≤ N) (c : List (Int × List UInt8)) (left : Int) (h0 : 0 ≤ left) (hl : left ≤ 1048576) (h : bdPendingS 9223372036854775807 c) : ∃ r : Int, g_cb N c left = some r ∧ (0 ≤ r → r ≤ left ∧ bdPendingS 1048576 c) := by
  have hh : c.length ≤ 9223372036854775807 := h.1
  unfold g_cb
  by_cases q : left - (c.length : Int) < 0
  · exact ⟨-1, by simp (disch := omega) only [dec_t, cond_true, wi_of], fun h => absurd h (by omega)⟩
  · have key := szL_eq (p := (g_ca N)) (Q := fun x => bdPending 1048576 x) (R := fun x => bdPending 9223372036854775807 x) N c 0 (left - (c.length : Int)) (fun x _ hx l h0 hl => szPending_eq hN x l h0 hl hx) h.2 (by omega) (by omega) (by omega) (by omega) (by omega) (by omega)
    rw [Int.natCast_zero] at key
    rcases key with e | ⟨m, e, k1, k2, k3⟩
    · exact ⟨-1, by simp (disch := omega) only [dec_f, cond_false, alt_inl, Option.bind_some, wi_of, szPendingS_l, e], fun h => absurd h (by omega)⟩
    · exact ⟨m, by simp (disch := omega) only [dec_f, cond_false, alt_inr, Option.bind_some, wi_of, szPendingS_l, e], fun _ => ⟨by omega, by omega, by simpa using k3⟩⟩
theorem szDisk_eq {N : Nat} (hN : 18446744073709551616 ≤ N) (c : List (List UInt8) × List (Int × List UInt8) × List (List UInt8)) (left : Int) (h0 : 0 ≤ left) (hl : left ≤ 1048576) (h : bdDisk 9223372036854775807 c) : ∃ r : Int, g_bz N c left = some r ∧ (0 ≤ r → r ≤ left ∧ bdDisk 1048576 c) := by
  unfold g_bz
  obtain ⟨r0, e0, k0⟩ := szStringS_eq hN c.1 (left) (by omega) (by omega) h.1
  by_cases q0 : r0 < 0
  · exact ⟨-1, by simp (disch := omega) only [dec_t, cond_true, Option.bind_some, e0], fun h => absurd h (by omega)⟩
  obtain ⟨ka0, kb0⟩ := k0 (by omega)
  obtain ⟨r1, e1, k1⟩ := szPendingS_eq hN c.2.1 (r0) (by omega) (by omega) h.2.1
  by_cases q1 : r1 < 0
  · exact ⟨-1, by simp (disch := omega) only [dec_t, dec_f, cond_true, cond_false, Option.bind_some, e0, e1], fun h => absurd h (by omega)⟩
  obtain ⟨ka1, kb1⟩ := k1 (by omega)
  obtain ⟨r2, e2, k2⟩ := szStringS_eq hN c.2.2 (r1) (by omega) (by omega) h.2.2
  by_cases q2 : r2 < 0
  · exact ⟨-1, by simp (disch := omega) only [dec_t, dec_f, cond_true, cond_false, Option.bind_some, e0, e1, e2], fun h => absurd h (by omega)⟩
  obtain ⟨ka2, kb2⟩ := k2 (by omega)
  exact ⟨r2, by simp (disch := omega) only [dec_f, cond_false, Option.bind_some, e0, e1, e2], fun _ => ⟨by omega, ⟨kb0, kb1, kb2⟩⟩⟩
theorem eqStringS_l (N n : Nat) (c d : List (List UInt8)) (k : Int) : g_by.l4 N n c d k = eqL (fun x y => some (decide (x = y))) n c d k := by
  induction n generalizing k with
  | zero => rfl
  | succ n ih => simp only [g_by.l4, eqL, ih, beq_dec, Option.bind_some]
theorem eqStringS_eq {N : Nat} (hN : 18446744073709551616 ≤ N) (x y : List (List UInt8)) (h : bdStringS 1000000000 x) : g_by N x y = some (decide (x = y)) := by
  have hl : x.length ≤ 1000000000 := h.1
  unfold g_by
  simp only [eqStringS_l]
  exact eqS_eq x y (fun _ _ _ => rfl) (by omega) (by omega)
theorem eqPending_eq {N : Nat} (hN : 18446744073709551616 ≤ N) (x y : Int × List UInt8) (h : bdPending 1000000000 x) : g_bv N x y = some (decide (x = y)) := by
  obtain ⟨x0, x1⟩ := x
  obtain ⟨y0, y1⟩ := y
  simp only [g_bv, bne_dec, beq_dec, Prod.mk.injEq]
  by_cases h0 : x0 = y0 <;> by_cases h1 : x1 = y1 <;> simp only [h0, h1, decide_true, decide_false, Bool.not_true, Bool.not_false, cond_true, cond_false, and_true, and_false, and_self]
theorem eqPendingS_l (N n : Nat) (c d : List (Int × List UInt8)) (k : Int) : g_bw.l4 N n c d k = eqL (g_bv N) n c d k := by
  induction n generalizing k with
  | zero => rfl
  | succ n ih => simp only [g_bw.l4, eqL, ih]
theorem eqPendingS_eq {N : Nat} (hN : 18446744073709551616 ≤ N) (x y : List (Int × List UInt8)) (h : bdPendingS 1000000000 x) : g_bw N x y = some (decide (x = y)) := by
  have hl : x.length ≤ 1000000000 := h.1
  unfold g_bw
  simp only [eqPendingS_l]
  exact eqS_eq x y (fun z hz y => eqPending_eq hN z y (h.2 z hz)) (by omega) (by omega)
theorem eqDisk_eq {N : Nat} (hN : 18446744073709551616 ≤ N) (x y : List (List UInt8) × List (Int × List UInt8) × List (List UInt8)) (h : bdDisk 1000000000 x) : g_bu N x y = some (decide (x = y)) := by
  obtain ⟨x0, x1, x2⟩ := x
  obtain ⟨y0, y1, y2⟩ := y
  simp only [g_bu, eqStringS_eq hN x0 y0 h.1, eqPendingS_eq hN x1 y1 h.2.1, eqStringS_eq hN x2 y2 h.2.2, Option.bind_some, Prod.mk.injEq]
  by_cases h0 : x0 = y0 <;> by_cases h1 : x1 = y1 <;> by_cases h2 : x2 = y2 <;> simp only [h0, h1, h2, decide_true, decide_false, Bool.not_true, Bool.not_false, cond_true, cond_false, and_true, and_false, and_self]
end Go.Vm
/- Disks: whether one is right, as the reference tells it; one act; the law of it. -/
set_option linter.unusedVariables false
set_option maxRecDepth 100000
namespace Go.Vm
theorem sOK_l4 (N : Nat) (b s : List (List UInt8)) (c : List (Int × List UInt8)) (hb : b.length ≤ 1000000000) : ∀ (n k : Nat), b.length ≤ k + n - 1 → 0 < n → k ≤ b.length →
    g_cp.l4 N n (k : Int) b c s = some (bif (b.drop k).all (fun x => decide (x.length ≤ 200)) then .inr (b, c, s) else .inl false)
  | 0, _, _, h, _ => by omega
  | n + 1, k, hn, _, hk => by
    unfold g_cp.l4
    by_cases h : k < b.length
    · rw [drop_get h, List.all_cons]
      by_cases h2 : b[k].length ≤ 200
      · simp (disch := omega) only [dec_t, dec_f, cond_true, cond_false, gd_true, Bool.true_and, Int.toNat_natCast, get_t, Option.bind_some, bind_id, nc1, wi_of, sOK_l4 N b s c hb n (k + 1)]
      · simp (disch := omega) only [dec_t, dec_f, cond_true, cond_false, gd_true, Int.toNat_natCast, get_t, Option.bind_some, bind_id, nc1, wi_of, Bool.false_and]
    · simp (disch := omega) only [dec_t, dec_f, cond_true, cond_false, gd_true, Int.toNat_natCast, bind_id, nc1, wi_of, List.drop_of_length_le, List.all_nil]
theorem sOK_l9 (N : Nat) (b s : List (List UInt8)) (c : List (Int × List UInt8)) (hb : s.length ≤ 1000000000) : ∀ (n k : Nat), s.length ≤ k + n - 1 → 0 < n → k ≤ s.length →
    g_cp.l9 N n (k : Int) b c s = some (bif (s.drop k).all (fun x => decide (x.length ≤ 200)) then .inr (b, c, s) else .inl false)
  | 0, _, _, h, _ => by omega
  | n + 1, k, hn, _, hk => by
    unfold g_cp.l9
    by_cases h : k < s.length
    · rw [drop_get h, List.all_cons]
      by_cases h2 : s[k].length ≤ 200
      · simp (disch := omega) only [dec_t, dec_f, cond_true, cond_false, gd_true, Bool.true_and, Int.toNat_natCast, get_t, Option.bind_some, bind_id, nc1, wi_of, sOK_l9 N b s c hb n (k + 1)]
      · simp (disch := omega) only [dec_t, dec_f, cond_true, cond_false, gd_true, Int.toNat_natCast, get_t, Option.bind_some, bind_id, nc1, wi_of, Bool.false_and]
    · simp (disch := omega) only [dec_t, dec_f, cond_true, cond_false, gd_true, Int.toNat_natCast, bind_id, nc1, wi_of, List.drop_of_length_le, List.all_nil]
theorem sOK_l14 (N : Nat) (b s : List (List UInt8)) (c : List (Int × List UInt8)) (hb : c.length ≤ 1000000000) (hb2 : b.length ≤ 1000000000) : ∀ (n k : Nat), c.length ≤ k + n - 1 → 0 < n → k ≤ c.length →
    g_cp.l14 N n (k : Int) b c s = some (bif (c.drop k).all (goodP b.length) then .inr () else .inl false)
  | 0, _, _, h, _ => by omega
  | n + 1, k, hn, _, hk => by
    unfold g_cp.l14
    by_cases h : k < c.length
    · rw [drop_get h, List.all_cons, goodP]
      by_cases q1 : 0 ≤ c[k].1
      · by_cases q2 : c[k].1 ≤ (b.length : Int) - 1
        · by_cases h2 : c[k].2.length ≤ 200
          · simp (disch := omega) only [dIn, dec_t, dec_f, cond_true, cond_false, gd_true, Bool.not_true, Bool.true_and, Bool.and_self, Int.toNat_natCast, get_t, Option.bind_some, bind_id, nc1, wi_of, sOK_l14 N b s c hb hb2 n (k + 1)]
          · simp (disch := omega) only [dIn, dec_t, dec_f, cond_true, cond_false, gd_true, Bool.not_true, Bool.and_self, Int.toNat_natCast, get_t, Option.bind_some, bind_id, nc1, wi_of, Bool.and_false, Bool.false_and]
        · simp (disch := omega) only [dIn, dec_t, dec_f, cond_true, cond_false, gd_true, Bool.not_false, Int.toNat_natCast, get_t, Option.bind_some, bind_id, nc1, wi_of, Bool.and_false, Bool.false_and]
      · simp (disch := omega) only [dIn, dec_t, dec_f, cond_true, cond_false, gd_true, Bool.not_false, Bool.and_true, Int.toNat_natCast, get_t, Option.bind_some, bind_id, nc1, wi_of, Bool.false_and]
    · simp (disch := omega) only [dec_t, dec_f, cond_true, cond_false, gd_true, Int.toNat_natCast, bind_id, nc1, wi_of, List.drop_of_length_le, List.all_nil]
theorem sDiskOK_any {N : Nat} (hN : 18446744073709551616 ≤ N) (d : DiskT) (h1 : d.1.length ≤ 1000000000) (h2 : d.2.1.length ≤ 1000000000) (h3 : d.2.2.length ≤ 1000000000) : g_cp N d = some (okDB d) := by
  obtain ⟨b, c, s⟩ := d
  dsimp only at h1 h2 h3
  have e1 := sOK_l4 N b s c h1 N 0 (by omega) (by omega) (by omega)
  have e2 := sOK_l9 N b s c h3 N 0 (by omega) (by omega) (by omega)
  have e3 := sOK_l14 N b s c h2 h1 N 0 (by omega) (by omega) (by omega)
  simp only [Int.natCast_zero, List.drop_zero] at e1 e2 e3
  unfold g_cp okDB
  simp only [dIn, e1, Option.bind_some]
  by_cases q1 : 1 ≤ b.length
  · by_cases q2 : b.length ≤ 64
    · by_cases q4 : c.length ≤ 4096
      · by_cases q6 : s.length = 0
        · simp (disch := omega) only [dec_t, dec_f, cond_true, cond_false, Bool.not_true, Bool.and_true, Bool.true_and, Bool.and_self, bne_ti, bne_fi, Bool.true_or]
          cases b.all (fun x => decide (x.length ≤ 200))
          · simp only [cond_false, Bool.false_and, alt_inl]
          · simp only [cond_true, Bool.true_and, alt_inr, e2, Option.bind_some]
            cases s.all (fun x => decide (x.length ≤ 200)) <;> simp only [cond_true, cond_false, alt_inl, alt_inr, e3, Option.bind_some, Bool.and_false, Bool.and_true] <;> cases c.all (goodP b.length) <;> rfl
        · by_cases q7 : s.length = b.length
          · simp (disch := omega) only [dec_t, dec_f, cond_true, cond_false, Bool.not_true, Bool.and_true, Bool.true_and, Bool.and_self, bne_ti, bne_fi, Bool.false_or]
            cases b.all (fun x => decide (x.length ≤ 200))
            · simp only [cond_false, Bool.false_and, alt_inl]
            · simp only [cond_true, Bool.true_and, alt_inr, e2, Option.bind_some]
              cases s.all (fun x => decide (x.length ≤ 200)) <;> simp only [cond_true, cond_false, alt_inl, alt_inr, e3, Option.bind_some, Bool.and_false, Bool.and_true] <;> cases c.all (goodP b.length) <;> rfl
          · simp (disch := omega) only [dec_t, dec_f, cond_true, cond_false, Bool.not_true, Bool.and_true, Bool.true_and, Bool.and_self, bne_ti, Bool.or_self, Bool.and_false, Bool.false_and]
      · simp (disch := omega) only [dec_t, dec_f, cond_true, cond_false, Bool.not_true, Bool.true_and, Bool.and_self, Bool.and_false, Bool.false_and]
    · simp (disch := omega) only [dec_t, dec_f, cond_true, Bool.not_false, Bool.and_false, Bool.false_and]
  · simp (disch := omega) only [dec_t, dec_f, cond_true, Bool.not_false, Bool.and_true, Bool.false_and]
end Go.Vm
/- Slots: the one that is open; the law FnExactOpenSlots. -/
set_option linter.unusedVariables false
set_option maxRecDepth 100000
namespace Go.Vm
theorem sread_l2 (N : Nat) (b : List (List UInt8)) (c : List (Int × List UInt8)) (s : List (List UInt8)) (at_ : Int) (hc : c.length ≤ 1000000) : ∀ (n k : Nat), k < n → k ≤ c.length → g_dr.l2 N n at_ ((k : Int) - 1) b c s = some (match rdF c at_ k with | some v => .inl v | none => .inr (b, c, s))
  | 0, k, h, _ => by omega
  | n + 1, 0, h, hk => by
    unfold g_dr.l2
    simp (disch := omega) only [dec_f, cond_false, bind_id, wi_of, rdF]
  | n + 1, k + 1, h, hk => by
    unfold g_dr.l2
    have hkc : k < c.length := by omega
    have e : (((k + 1 : Nat) : Int) - 1) = (k : Int) := by omega
    have ih := sread_l2 N b c s at_ hc n k (by omega) (by omega)
    rw [e, rdF, get_t hkc]
    by_cases q : c[k].1 = at_
    · simp (disch := omega) only [dec_t, cond_true, gd_true, Int.toNat_natCast, get_t, Option.bind_some, bind_id, wi_of, beq_ti, if_pos q]
    · simp (disch := omega) only [dec_t, cond_true, cond_false, gd_true, Int.toNat_natCast, get_t, Option.bind_some, bind_id, wi_of, beq_fi, if_neg q, ih]
theorem sread_eq {N : Nat} (hN : 18446744073709551616 ≤ N) (b : List (List UInt8)) (c : List (Int × List UInt8)) (s : List (List UInt8)) (at_ : Int) (hc : c.length ≤ 1000000) (h1 : 0 ≤ at_) (h2 : at_ < (b.length : Int)) : g_dr N (b, c, s) at_ = some (rdD (b, c, s) at_) := by
  have e := sread_l2 N b c s at_ hc N c.length (by omega) (Nat.le_refl _)
  have hlt : at_.toNat < b.length := by omega
  have ew : wi ((c.length : Int) - 1) = (c.length : Int) - 1 := wi_of (by omega) (by omega)
  unfold g_dr rdD
  dsimp only
  rw [ew, e]
  cases rdF c at_ c.length with
  | some v => simp only [Option.bind_some, alt_inl]
  | none => simp (disch := omega) only [dec_t, gd_true, alt_inr, get_t, Option.bind_some, bind_id]; rfl
theorem rdF_mem (c : List (Int × List UInt8)) (at_ : Int) : ∀ (k : Nat) (v : List UInt8), rdF c at_ k = some v → ∃ p ∈ c, p.2 = v
  | 0, v, h => by simp [rdF] at h
  | k + 1, v, h => by
    unfold rdF at h
    split at h
    · rename_i p hp
      split at h
      · simp only [Option.some.injEq] at h
        exact ⟨p, List.mem_of_getElem? hp, h⟩
      · exact rdF_mem c at_ k v h
    · exact rdF_mem c at_ k v h
theorem rdD_len {d : DiskT} (h : OkD d) (at_ : Int) : (rdD d at_).length ≤ 200 := by
  unfold rdD
  split
  · rename_i v hv
    obtain ⟨p, hp, rfl⟩ := rdF_mem _ _ _ _ hv
    exact (h.c2 p hp).2.2
  · cases hb : d.1[at_.toNat]? with
    | none => simp
    | some x => exact h.b3 x (List.mem_of_getElem? hb)
def best (s : Option (Int × List UInt8)) (cur : Int × List UInt8) : Int × List UInt8 := match s with | some x => if cur.1 < x.1 then x else cur | none => cur
/-- The slot of the greater epoch of those that open. -/
def openF (key : List UInt8) (d : DiskT) : Int × List UInt8 := best (rdSlot key 1 (rdD d 1)) (best (rdSlot key 0 (rdD d 0)) (0, []))
theorem iOpen_step {key : List UInt8} {d : DiskT} (hd : OkD d) (hl : 2 ≤ d.1.length) (hk : key.length ≤ 1000000) (n p : Nat) (hp : p < 2) (m5 : Int) (m6 : List UInt8) (cur : Int × List UInt8) :
    g_af.l3 N0 (n + 1) key (p : Int) d.1 d.2.1 d.2.2 m5 m6 cur.1 cur.2 = g_af.l3 N0 n key ((p + 1 : Nat) : Int) d.1 d.2.1 d.2.2 m5 m6 (best (rdSlot key p (rdD d p)) cur).1 (best (rdSlot key p (rdD d p)) cur).2 := by
  obtain ⟨b, c, s⟩ := d
  dsimp only at hl ⊢
  have hr := read_eq N0 b c s (p : Int) (by omega) (by omega)
  have hrl := rdD_len hd (p : Int)
  obtain ⟨x, ok, e, h⟩ := iReadSlot1 (key := key) (place := (p : Int)) (b := rdD (b, c, s) (p : Int)) hk (by omega)
  conv => lhs; unfold g_af.l3
  rcases h with ⟨rfl, h⟩ | ⟨rfl, h⟩
  · rw [h]
    by_cases hc : cur.1 < x.1
    · simp (disch := omega) only [dec_t, cond_true, Option.bind_some, bind_id, nc1, wi_of, hr, e, best, if_pos hc]
    · simp (disch := omega) only [dec_t, dec_f, cond_true, cond_false, Option.bind_some, bind_id, nc1, wi_of, hr, e, best, if_neg hc]
  · rw [h]
    simp (disch := omega) only [dec_t, cond_true, cond_false, Option.bind_some, bind_id, nc1, wi_of, hr, e, best]
theorem sOpen_step {key : List UInt8} {d : DiskT} (hd : OkD d) (hl : 2 ≤ d.1.length) (hk : key.length ≤ 1000000) (n p : Nat) (hp : p < 2) (m5 : Int) (m6 : List UInt8) (cur : Int × List UInt8) :
    g_du.l3 N0 (n + 1) key (p : Int) d.1 d.2.1 d.2.2 m5 m6 cur.1 cur.2 = g_du.l3 N0 n key ((p + 1 : Nat) : Int) d.1 d.2.1 d.2.2 m5 m6 (best (rdSlot key p (rdD d p)) cur).1 (best (rdSlot key p (rdD d p)) cur).2 := by
  have hcl := hd.c1
  have hrl := rdD_len hd (p : Int)
  obtain ⟨b, c, s⟩ := d
  dsimp only at hl hcl ⊢
  have hr := sread_eq hN0 b c s (p : Int) (by omega) (by omega) (by omega)
  have e := sReadSlot1 (key := key) (place := (p : Int)) (b := rdD (b, c, s) (p : Int)) hk (by omega)
  conv => lhs; unfold g_du.l3
  cases h : rdSlot key (p : Int) (rdD (b, c, s) (p : Int)) with
  | some x =>
    rw [h] at e
    by_cases hc : cur.1 < x.1
    · simp (disch := omega) only [dec_t, cond_true, Option.bind_some, bind_id, nc1, wi_of, hr, e, best, if_pos hc]
    · simp (disch := omega) only [dec_t, dec_f, cond_true, cond_false, Option.bind_some, bind_id, nc1, wi_of, hr, e, best, if_neg hc]
  | none =>
    rw [h] at e
    simp (disch := omega) only [dec_t, cond_true, cond_false, Option.bind_some, bind_id, nc1, wi_of, hr, e, best]
theorem iOpenF {key : List UInt8} {d : DiskT} (hd : OkD d) (hl : 2 ≤ d.1.length) (hk : key.length ≤ 1000000) : g_af N0 d key = some (openF key d) := by
  unfold g_af
  have h0 := iOpen_step hd hl hk 18446744073709551615 0 (by omega) 0 [] (0, [])
  have h1 := iOpen_step hd hl hk 18446744073709551614 1 (by omega) 0 [] (best (rdSlot key 0 (rdD d 0)) (0, []))
  have h2 : ∀ (x : Int) (y : List UInt8), g_af.l3 N0 18446744073709551614 key ((2 : Nat) : Int) d.1 d.2.1 d.2.2 0 [] x y = some (0, [], x, y) := fun x y => by
    rw [show (18446744073709551614 : Nat) = 18446744073709551613 + 1 from rfl]
    unfold g_af.l3
    simp (disch := omega) only [dec_f, cond_false, bind_id, nc1, wi_of]
  rw [show (18446744073709551615 + 1 : Nat) = N0 from rfl, Int.natCast_zero] at h0
  rw [show (18446744073709551614 + 1 : Nat) = 18446744073709551615 from rfl, show ((1 : Nat) : Int) = 1 from rfl] at h1
  rw [h0, show ((0 + 1 : Nat) : Int) = 1 from rfl, h1, h2]; rfl
theorem sOpenF {key : List UInt8} {d : DiskT} (hd : OkD d) (hl : 2 ≤ d.1.length) (hk : key.length ≤ 1000000) : g_du N0 key d = some (openF key d) := by
  unfold g_du
  have h0 := sOpen_step hd hl hk 18446744073709551615 0 (by omega) 0 [] (0, [])
  have h1 := sOpen_step hd hl hk 18446744073709551614 1 (by omega) 0 [] (best (rdSlot key 0 (rdD d 0)) (0, []))
  have h2 : ∀ (x : Int) (y : List UInt8), g_du.l3 N0 18446744073709551614 key ((2 : Nat) : Int) d.1 d.2.1 d.2.2 0 [] x y = some (0, [], x, y) := fun x y => by
    rw [show (18446744073709551614 : Nat) = 18446744073709551613 + 1 from rfl]
    unfold g_du.l3
    simp (disch := omega) only [dec_f, cond_false, bind_id, nc1, wi_of]
  rw [show (18446744073709551615 + 1 : Nat) = N0 from rfl, Int.natCast_zero] at h0
  rw [show (18446744073709551614 + 1 : Nat) = 18446744073709551615 from rfl, show ((1 : Nat) : Int) = 1 from rfl] at h1
  rw [h0, show ((0 + 1 : Nat) : Int) = 1 from rfl, h1, h2]; rfl
/-- The code for a key and a disk with slots. -/
def slCode (key : List UInt8) (d : DiskT) : Int := if key.length = 32 then (if okDB d = true then (if d.1.length < 2 then 4 else 0) else 1) else 1
theorem iSlCode {key : List UInt8} {d : DiskT} (h1 : d.1.length ≤ 1048576) (h2 : d.2.1.length ≤ 1048576) (h3 : d.2.2.length ≤ 1048576) : g_bl N0 key d = some (if 65536 < key.length then 2 else slCode key d) := by
  unfold g_bl slCode
  rw [isLongS_eq hN0 key, iDiskOK_any hN0 d (by omega) (by omega) (by omega)]
  by_cases q1 : 65536 < key.length
  · simp (disch := omega) only [dec_t, cond_true, Option.bind_some, bne_ti, if_pos q1]
  by_cases q2 : key.length = 32
  · cases hd : okDB d
    · simp (disch := omega) only [dec_f, cond_true, cond_false, Bool.not_false, Option.bind_some, bne_fi, if_neg q1, if_pos q2, Bool.false_eq_true, if_false]
    · by_cases q3 : d.1.length < 2
      · simp (disch := omega) only [dec_t, dec_f, cond_true, cond_false, Bool.not_true, Option.bind_some, bne_fi, if_neg q1, if_pos q2, if_true, if_pos q3]
      · simp (disch := omega) only [dec_f, cond_false, Bool.not_true, Option.bind_some, bne_fi, if_neg q1, if_pos q2, if_true, if_neg q3]
  · simp (disch := omega) only [dec_f, cond_true, cond_false, Option.bind_some, bne_ti, if_neg q1, if_neg q2]
theorem sSlCode {key : List UInt8} {d : DiskT} (h1 : d.1.length ≤ 1048576) (h2 : d.2.1.length ≤ 1048576) (h3 : d.2.2.length ≤ 1048576) (hk : key.length ≤ 1048576) : g_ds N0 key d = some (slCode key d) := by
  unfold g_ds slCode
  rw [sDiskOK_any hN0 d (by omega) (by omega) (by omega)]
  by_cases q2 : key.length = 32
  · cases hd : okDB d
    · simp (disch := omega) only [cond_true, cond_false, Bool.not_false, Option.bind_some, bne_fi, if_pos q2, Bool.false_eq_true, if_false]
    · by_cases q3 : d.1.length < 2
      · simp (disch := omega) only [dec_t, cond_true, cond_false, Bool.not_true, Option.bind_some, bne_fi, if_pos q2, if_true, if_pos q3]
      · simp (disch := omega) only [dec_f, cond_false, Bool.not_true, Option.bind_some, bne_fi, if_pos q2, if_true, if_neg q3]
  · simp (disch := omega) only [cond_true, Option.bind_some, bne_ti, if_neg q2]
theorem slCode_ok {key : List UInt8} {d : DiskT} (h : slCode key d = 0) : key.length = 32 ∧ OkD d ∧ 2 ≤ d.1.length := by
  unfold slCode at h
  by_cases q2 : key.length = 32
  · rw [if_pos q2] at h
    by_cases q : okDB d = true
    · rw [if_pos q] at h
      by_cases q3 : d.1.length < 2
      · rw [if_pos q3] at h; omega
      · exact ⟨q2, okDB_spec q, by omega⟩
    · rw [if_neg q] at h; omega
  · rw [if_neg q2] at h; omega
theorem openSlots_both {key : List UInt8} {d : DiskT} (h1 : d.1.length ≤ 1048576) (h2 : d.2.1.length ≤ 1048576) (h3 : d.2.2.length ≤ 1048576) (hk : key.length ≤ 1048576) : ∃ s f, g_ah N0 key d = some (s, f) ∧ g_cq N0 key d = some (s, f) := by
  unfold g_ah g_cq
  rw [iSlCode h1 h2 h3, sSlCode h1 h2 h3 hk]
  by_cases q1 : 65536 < key.length
  · exact ⟨(0, []), 2, by simp (disch := omega) only [cond_true, Option.bind_some, bne_ti, if_pos q1], by simp (disch := omega) only [dec_t, cond_true, Option.bind_some]⟩
  by_cases q2 : slCode key d = 0
  · obtain ⟨p1, p2, p3⟩ := slCode_ok q2
    have e1 := iOpenF (key := key) p2 p3 (by omega)
    have e2 := sOpenF (key := key) p2 p3 (by omega)
    by_cases q3 : (openF key d).1 = 0
    · exact ⟨(0, []), 5, by simp (disch := omega) only [cond_true, cond_false, Option.bind_some, beq_ti, bne_fi, if_neg q1, q2, e1], by simp (disch := omega) only [dec_f, cond_true, cond_false, Option.bind_some, beq_ti, bne_fi, q2, e2]⟩
    · exact ⟨openF key d, 0, by simp (disch := omega) only [cond_false, Option.bind_some, beq_fi, bne_fi, if_neg q1, q2, e1], by simp (disch := omega) only [dec_f, cond_false, Option.bind_some, beq_fi, bne_fi, q2, e2]⟩
  · exact ⟨(0, []), slCode key d, by simp (disch := omega) only [cond_true, Option.bind_some, bne_ti, if_neg q1], by simp (disch := omega) only [dec_f, cond_true, cond_false, Option.bind_some, bne_ti]⟩
theorem eqSlot_self (N : Nat) (s : Int × List UInt8) : g_bx N s s = some true := by unfold g_bx; simp only [bne_self_eq_false, beq_self_eq_true, Bool.not_true, cond_false]
theorem FnExactOpenSlots_true (key : List UInt8) (d : DiskT) (h1 : bdDisk 9223372036854775807 d) : g_bt N0 key d = some true := by
  unfold g_bt
  by_cases q0 : key.length > 1048576
  · simp (disch := omega) only [dec_t, cond_true]
  obtain ⟨r1, e1, k1⟩ := szDisk_eq hN0 d 1048576 (by omega) (by omega) h1
  by_cases q1 : r1 < 0
  · simp (disch := omega) only [dec_t, dec_f, cond_true, cond_false, Option.bind_some, e1]
  obtain ⟨k1a, k1b⟩ := k1 (by omega)
  have b1 := bdDisk_mono (show 1048576 ≤ 1000000000 by omega) k1b
  have t1 := toDisk_eq hN0 d b1
  have g2 := eqDisk_eq hN0 d d b1
  obtain ⟨s, f, f1, f2⟩ := openSlots_both (key := key) (d := d) k1b.1.1 k1b.2.1.1 k1b.2.2.1 (by omega)
  simp (disch := omega) only [dec_f, decide_true, cond_false, Bool.not_true, Option.bind_some, e1, t1, f1, f2, g2, eqSlot_self, bne_self_eq_false]
theorem law_FnExactOpenSlots (key : List UInt8) (d : DiskT) {p : Prop} (_ : p) (h1 : InR (.st (.pair (.sl .str) (.pair (.sl (.st (.pair (.int .i64) .str))) (.sl .str)))) d) : ∃ N, g_bt N key d = some true :=
  ⟨N0, FnExactOpenSlots_true key d ⟨h1.1, ⟨h1.2.1.1, fun y hy => (h1.2.1.2 y hy).2⟩, h1.2.2⟩⟩
end Go.Vm

/- A part of the proof: an abstract machine, mirrors and their laws, one text behind the other. -/
import Derived.Test.YtacbolonkenkcaaVE4
/- Disks: whether a disk is right, told of any disk. -/
set_option linter.unusedVariables false
set_option maxRecDepth 100000
namespace Go.Vm
def goodP (n : Nat) (p : Int × List UInt8) : Bool := decide (0 ≤ p.1) && decide (p.1 ≤ (n : Int) - 1) && decide (p.2.length ≤ 200)
def okDB (d : DiskT) : Bool := decide (1 ≤ d.1.length) && decide (d.1.length ≤ 64) && d.1.all (fun x => decide (x.length ≤ 200)) && decide (d.2.1.length ≤ 4096) && d.2.1.all (goodP d.1.length) && (decide (d.2.2.length = 0) || decide (d.2.2.length = d.1.length)) && d.2.2.all (fun x => decide (x.length ≤ 200))
theorem okDB_spec {d : DiskT} (h : okDB d = true) : OkD d := by
  unfold okDB at h
  simp only [Bool.and_eq_true, Bool.or_eq_true, decide_eq_true_eq, List.all_eq_true, goodP] at h
  obtain ⟨⟨⟨⟨⟨⟨h1, h2⟩, h3⟩, h4⟩, h5⟩, h6⟩, h7⟩ := h
  refine ⟨h1, h2, h3, h4, fun p hp => ?_, ?_, h7⟩
  · obtain ⟨⟨q1, q2⟩, q3⟩ := h5 p hp
    exact ⟨q1, by omega, q3⟩
  · rcases h6 with q | q
    · left; exact List.length_eq_zero_iff.1 q
    · exact .inr q
theorem any_not {α : Type} (q : α → Bool) (l : List α) : (!(l.any fun x => !q x)) = l.all q := by
  induction l with
  | nil => rfl
  | cons x l ih => rw [List.any_cons, List.all_cons, ← ih]; cases q x <;> simp
theorem allBlocks_any {N : Nat} (hN : 18446744073709551616 ≤ N) (l : List (List UInt8)) (hl : l.length ≤ 140737488355328) : g_impl_areAll_string__b_impl_isBlock_ N l = some (l.all fun x => decide (x.length ≤ 200)) := by
  have hp : ∀ a ∈ l, g_impl_areAll_string_1__bP_impl_isBlock_ N a = some ((fun x => !decide (x.length ≤ 200)) a) := fun a ha => by
    unfold g_impl_areAll_string_1__bP_impl_isBlock_ g_impl_isBlock
    by_cases h : a.length ≤ 200
    · simp (disch := omega) only [dec_t, Bool.not_true, Option.bind_some]
    · simp (disch := omega) only [dec_f, Bool.not_false, Option.bind_some]
  have key : ∀ n c0 c1 m, g_slices_IndexFunc_Sstring_string__b_impl_areAll_string_1P_impl_isBlock__.l2 N n c0 c1 m = idxL (g_impl_areAll_string_1__bP_impl_isBlock_ N) n c0 c1 m := by
    intro n c0 c1
    induction n with
    | zero => intro m; rfl
    | succ n ih => intro m; simp only [g_slices_IndexFunc_Sstring_string__b_impl_areAll_string_1P_impl_isBlock__.l2, idxL, ih]
  unfold g_impl_areAll_string__b_impl_isBlock_ g_slices_ContainsFunc_Sstring_string__b_impl_areAll_string_1P_impl_isBlock__ g_slices_IndexFunc_Sstring_string__b_impl_areAll_string_1P_impl_isBlock__
  rw [key, contains_eq (p := g_impl_areAll_string_1__bP_impl_isBlock_ N) (q := fun x => !decide (x.length ≤ 200)) l hp (by omega) (by omega)]
  simp only [Option.bind_some, any_not]
theorem pend_any (N : Nat) (d : DiskT) (hb : d.1.length ≤ 140737488355328) : ∀ (n k : Nat) (c : List (Int × List UInt8)), c.length ≤ k + n - 1 → 0 < n → k ≤ c.length → c.length ≤ 140737488355328 →
    g_slices_IndexFunc_Simpl_Pending_impl_Pending__b_impl_areAll_impl_Pending_1P_impl_DiskOK_1q__.l2 N n c (c.length : Int) d (k : Int) = some (match idxF (fun p => !goodP d.1.length p) (c.drop k) k with | .inl y => .inl (d, y) | .inr _ => .inr d)
  | 0, _, _, _, h, _, _ => by omega
  | n + 1, k, c, hn, _, hk, hl => by
    unfold g_slices_IndexFunc_Simpl_Pending_impl_Pending__b_impl_areAll_impl_Pending_1P_impl_DiskOK_1q__.l2
    by_cases h : k < c.length
    · have e : g_impl_areAll_impl_Pending_1__bP_impl_DiskOK_1q_ N c[k] d = some (!goodP d.1.length c[k]) := by
        unfold g_impl_areAll_impl_Pending_1__bP_impl_DiskOK_1q_ g_impl_DiskOK_1__bq g_impl_Disk_isAt g_impl_isBlock goodP
        simp (disch := omega) only [dWithin, Option.bind_some, wi_of]
        by_cases q1 : 0 ≤ c[k].1
        · by_cases q2 : c[k].1 ≤ (d.1.length : Int) - 1
          · by_cases q3 : c[k].2.length ≤ 200
            · simp (disch := omega) only [dec_t, cond_true, Bool.not_true, Bool.and_self, Option.bind_some]
            · simp (disch := omega) only [dec_t, dec_f, cond_true, Bool.not_false, Bool.true_and, Bool.and_self, Option.bind_some]
          · simp (disch := omega) only [dec_t, dec_f, cond_false, Bool.not_false, Option.bind_some, Bool.and_false, Bool.false_and]
        · simp (disch := omega) only [dec_t, dec_f, cond_false, Bool.not_false, Bool.and_true, Option.bind_some, Bool.false_and]
      rw [drop_get h, idxF]
      simp (disch := omega) only [dec_t, cond_true, gd_true, Int.toNat_natCast, get_t, Option.bind_some, bind_id, nc1, wi_of, e]
      cases q : goodP d.1.length c[k]
      · rfl
      · exact pend_any N d hb n (k + 1) c (by omega) (by omega) (by omega) hl
    · simp (disch := omega) only [dec_t, dec_f, cond_false, gd_true, Int.toNat_natCast, bind_id, nc1, wi_of, List.drop_of_length_le, idxF]
theorem iDiskOK_any {N : Nat} (hN : 18446744073709551616 ≤ N) (d : DiskT) (h1 : d.1.length ≤ 140737488355328) (h2 : d.2.1.length ≤ 140737488355328) (h3 : d.2.2.length ≤ 140737488355328) : g_impl_DiskOK N d = some (okDB d) := by
  have e := pend_any N d h1 N 0 d.2.1 (by omega) (by omega) (by omega) h2
  simp only [Int.natCast_zero, List.drop_zero] at e
  have e2 : g_impl_areAll_impl_Pending__b_impl_DiskOK_1q_ N d.2.1 d = some (d.2.1.all (goodP d.1.length)) := by
    unfold g_impl_areAll_impl_Pending__b_impl_DiskOK_1q_ g_slices_ContainsFunc_Simpl_Pending_impl_Pending__b_impl_areAll_impl_Pending_1P_impl_DiskOK_1q__ g_slices_IndexFunc_Simpl_Pending_impl_Pending__b_impl_areAll_impl_Pending_1P_impl_DiskOK_1q__
    rw [e, ← any_not, ← idxF_any _ d.2.1 0]
    cases idxF (fun p => !goodP d.1.length p) d.2.1 0 <;> rfl
  unfold g_impl_DiskOK g_impl_isLongList_impl_Pending okDB
  simp only [dWithin, allBlocks_any hN d.1 h1, allBlocks_any hN d.2.2 h3, e2, Option.bind_some]
  by_cases q1 : 1 ≤ d.1.length
  · by_cases q2 : d.1.length ≤ 64
    · simp (disch := omega) only [dec_t, cond_true, Bool.true_and, Bool.and_self]
      cases d.1.all (fun x => decide (x.length ≤ 200))
      · simp only [cond_false, Bool.false_and]
      · by_cases q4 : d.2.1.length ≤ 4096
        · simp (disch := omega) only [dec_t, dec_f, cond_true, Bool.not_false, Bool.true_and, Bool.and_self]
          cases d.2.1.all (goodP d.1.length)
          · simp only [cond_false, Bool.false_and]
          · by_cases q6 : d.2.2.length = 0
            · simp (disch := omega) only [dec_t, dec_f, cond_true, cond_false, Bool.true_and, Bool.and_self, beq_ti, beq_fi, Bool.true_or]
            · by_cases q7 : d.2.2.length = d.1.length
              · simp (disch := omega) only [dec_t, dec_f, cond_true, cond_false, Bool.true_and, Bool.and_self, beq_ti, beq_fi, Bool.false_or]
              · simp (disch := omega) only [dec_f, cond_true, cond_false, Bool.true_and, beq_fi, Bool.or_self, Bool.false_and]
        · simp (disch := omega) only [dec_t, dec_f, cond_true, cond_false, Bool.not_true, Bool.true_and, Bool.false_and]
    · simp (disch := omega) only [dec_t, dec_f, cond_false, Bool.and_false, Bool.false_and]
  · simp (disch := omega) only [dec_t, dec_f, cond_false, Bool.and_true, Bool.false_and]
end Go.Vm
/- The laws' own helpers: marks, sizes. -/
set_option linter.unusedVariables false
set_option maxRecDepth 100000
namespace Go.Vm
theorem markText_some {N : Nat} (hN : 18446744073709551616 ≤ N) (k : Nat) (hk : k ≤ 9000000000000000000) : ∃ t, g_laws_markText N (k : Int) = some t := by
  -- twenty rounds are enough
  unfold g_laws_markText
  by_cases h : k = 0
  · subst h; exact ⟨_, by simp; rfl⟩
  · have key : ∀ (n k : Nat) (l : List UInt8), k < 10 ^ 20 → 20 < n → k ≤ 9223372036854775000 → l.length + 20 ≤ 9223372036854775807 → ∃ t, g_laws_markText.l4 N n (k : Int) l = some t ∧ t.length ≤ l.length + 20 := by
      suffices H : ∀ (d n k : Nat) (l : List UInt8), k < 10 ^ d → d < n → k ≤ 9223372036854775000 → l.length + d ≤ 9223372036854775807 → ∃ t, g_laws_markText.l4 N n (k : Int) l = some t ∧ t.length ≤ l.length + d from fun n k l h1 h2 h3 h4 => H 20 n k l h1 h2 h3 h4
      intro d
      induction d with
      | zero =>
        intro n k l h1 h2 h3 h4
        have : k = 0 := by simpa using h1
        subst this
        cases n with
        | zero => omega
        | succ n => exact ⟨l, by unfold g_laws_markText.l4; simp, by omega⟩
      | succ d ih =>
        intro n k l h1 h2 h3 h4
        cases n with
        | zero => omega
        | succ n =>
          unfold g_laws_markText.l4
          by_cases h : k = 0
          · subst h; exact ⟨l, by simp, by omega⟩
          · have e2 : (k : Int).tdiv 10 = ((k / 10 : Nat) : Int) := rfl
            have h10 : k / 10 < 10 ^ d := by rw [Nat.pow_succ] at h1; omega
            simp (disch := omega) only [dec_t, cond_true, gd_true, bind_id, wi_of, List.length_cons, List.length_nil, e2, List.singleton_append]
            obtain ⟨t, h5, h6⟩ := ih n (k / 10) (wb (wi (48 + (k : Int).tmod 10)) :: l) h10 (by omega) (by omega) (by simp; omega)
            exact ⟨t, h5, by simp at h6; omega⟩
    obtain ⟨t, h1, h2⟩ := key N k [] (by have : (10 : Nat) ^ 20 = 100000000000000000000 := by decide
                                         omega) (by omega) (by omega) (by simp)
    refine ⟨109 :: t, ?_⟩
    simp only [List.length_nil] at h2
    simp (disch := omega) only [dec_t, dec_f, cond_false, gd_true, Option.bind_some, h1, List.singleton_append]
def mtx (N m : Nat) : List UInt8 := (g_laws_markText N (m : Int)).getD []
/-- Sizes of a list's elements. -/
def szL {α : Type} (p : α → Int → Option Int) : Nat → List α → Int → Int → Option (Int ⊕ Int)
  | 0, _, _, _ => none
  | n + 1, c0, m1, m2 =>
  bif decide (m2 < (c0.length : Int)) then
   gd (decide (0 ≤ m2)) <|
   c0[m2.toNat]?.bind fun e3 =>
   (p e3 m1).bind fun r4 =>
   bif decide (r4 < 0) then
    some (Sum.inl (-1))
   else
   (szL p n c0 r4 (wi (m2 + 1))).bind some
  else
  some (Sum.inr m1)
theorem szL_eq {α : Type} {p : α → Int → Option Int} {Q R : α → Prop} : ∀ (n : Nat) (c : List α) (k : Nat) (left : Int), (∀ x ∈ c, R x → ∀ l : Int, 0 ≤ l → l ≤ 1048576 → ∃ r, p x l = some r ∧ (0 ≤ r → r ≤ l ∧ Q x)) → (∀ x ∈ c, R x) → c.length ≤ k + n - 1 → 0 < n → k ≤ c.length → c.length ≤ 9223372036854775000 → 0 ≤ left → left ≤ 1048576 →
    szL p n c left (k : Int) = some (.inl (-1)) ∨ ∃ m : Int, szL p n c left (k : Int) = some (.inr m) ∧ 0 ≤ m ∧ m ≤ left ∧ ∀ x ∈ c.drop k, Q x
  | 0, _, _, _, _, _, _, h, _, _, _, _ => by omega
  | n + 1, c, k, left, hp, hR, hn, _, hk, hc, h0, hl => by
    unfold szL
    by_cases h : k < c.length
    · obtain ⟨r, e, hr⟩ := hp _ (List.getElem_mem h) (hR _ (List.getElem_mem h)) left h0 hl
      by_cases h3 : r < 0
      · left
        simp (disch := omega) only [dec_t, cond_true, gd_true, Int.toNat_natCast, get_t, Option.bind_some, bind_id, nc1, wi_of, e]
      · obtain ⟨h4, h5⟩ := hr (by omega)
        have := szL_eq n c (k + 1) r hp hR (by omega) (by omega) (by omega) hc (by omega) (by omega)
        rcases this with q | ⟨m, q1, q2, q3, q4⟩
        · left
          simp (disch := omega) only [dec_t, dec_f, cond_true, cond_false, gd_true, Int.toNat_natCast, get_t, Option.bind_some, bind_id, nc1, wi_of, e, q]
        · right
          refine ⟨m, by simp (disch := omega) only [dec_t, dec_f, cond_true, cond_false, gd_true, Int.toNat_natCast, get_t, Option.bind_some, bind_id, nc1, wi_of, e, q1], q2, by omega, fun x hx => ?_⟩
          rw [drop_get h] at hx
          rcases List.mem_cons.1 hx with rfl | hx
          · exact h5
          · exact q4 x hx
    · right
      refine ⟨left, by simp (disch := omega) only [dec_t, dec_f, cond_false, gd_true, Int.toNat_natCast, bind_id, nc1, wi_of], h0, by omega, fun x hx => ?_⟩
      rw [List.drop_of_length_le (by omega)] at hx
      simp at hx
end Go.Vm
/- The laws' own helpers, printed by a program of ours. -/
set_option linter.unusedVariables false
set_option maxRecDepth 100000
namespace Go.Vm
abbrev bdStringS (n : Nat) (x : List (List UInt8)) : Prop := x.length ≤ n ∧ ∀ y ∈ x, (y).length ≤ n
theorem bdStringS_mono {n m : Nat} (hm : n ≤ m) {x : List (List UInt8)} (h : bdStringS n x) : bdStringS m x := ⟨Nat.le_trans h.1 hm, fun y hy => Nat.le_trans (h.2 y hy) hm⟩
abbrev bdPending (n : Nat) (x : Int × List UInt8) : Prop := (x.2).length ≤ n
theorem bdPending_mono {n m : Nat} (hm : n ≤ m) {x : Int × List UInt8} (h : bdPending n x) : bdPending m x := Nat.le_trans h hm
abbrev bdPendingS (n : Nat) (x : List (Int × List UInt8)) : Prop := x.length ≤ n ∧ ∀ y ∈ x, bdPending n y
theorem bdPendingS_mono {n m : Nat} (hm : n ≤ m) {x : List (Int × List UInt8)} (h : bdPendingS n x) : bdPendingS m x := ⟨Nat.le_trans h.1 hm, fun y hy => bdPending_mono hm (h.2 y hy)⟩
abbrev bdDisk (n : Nat) (x : List (List UInt8) × List (Int × List UInt8) × List (List UInt8)) : Prop := bdStringS n x.1 ∧ bdPendingS n x.2.1 ∧ bdStringS n x.2.2
theorem bdDisk_mono {n m : Nat} (hm : n ≤ m) {x : List (List UInt8) × List (Int × List UInt8) × List (List UInt8)} (h : bdDisk n x) : bdDisk m x := ⟨bdStringS_mono hm h.1, bdPendingS_mono hm h.2.1, bdStringS_mono hm h.2.2⟩
theorem toStringS_l (N n : Nat) (c ys : List (List UInt8)) (k : Int) : g_laws_toStringS.l3 N n c k ys = toL2 some n c k ys := by
  induction n generalizing k ys with
  | zero => rfl
  | succ n ih => simp only [g_laws_toStringS.l3, toL2, ih, Option.bind_some]
theorem toStringS_eq {N : Nat} (hN : 18446744073709551616 ≤ N) (c : List (List UInt8)) (h : bdStringS 1000000000 c) : g_laws_toStringS N c = some c := by
  have hl : c.length ≤ 1000000000 := h.1
  unfold g_laws_toStringS
  simp (disch := omega) only [toStringS_l, dec_t, gd_true, Bool.and_self, Int.toNat_natCast, bind_id, room_t]
  rw [show (0 : Int) = ((0 : Nat) : Int) from rfl, toL2_eq (p := some) (f := id) N c 0 _ (fun _ _ => rfl) (by omega) (by omega) (by omega) (by omega) (by simp)]
  simp
theorem toPending_eq {N : Nat} (hN : 18446744073709551616 ≤ N) (c : Int × List UInt8) (h : bdPending 1000000000 c) : g_laws_toPending N c = some c := rfl
theorem toPendingS_l (N n : Nat) (c ys : List (Int × List UInt8)) (k : Int) : g_laws_toPendingS.l3 N n c k ys = toL2 (g_laws_toPending N) n c k ys := by
  induction n generalizing k ys with
  | zero => rfl
  | succ n ih => simp only [g_laws_toPendingS.l3, toL2, ih]
theorem toPendingS_eq {N : Nat} (hN : 18446744073709551616 ≤ N) (c : List (Int × List UInt8)) (h : bdPendingS 1000000000 c) : g_laws_toPendingS N c = some c := by
  have hl : c.length ≤ 1000000000 := h.1
  unfold g_laws_toPendingS
  simp (disch := omega) only [toPendingS_l, dec_t, gd_true, Bool.and_self, Int.toNat_natCast, bind_id, room_t]
  rw [show (0 : Int) = ((0 : Nat) : Int) from rfl, toL2_eq (p := (g_laws_toPending N)) (f := id) N c 0 _ (fun x hx => toPending_eq hN x (h.2 x hx)) (by omega) (by omega) (by omega) (by omega) (by simp)]
  simp
theorem toDisk_eq {N : Nat} (hN : 18446744073709551616 ≤ N) (c : List (List UInt8) × List (Int × List UInt8) × List (List UInt8)) (h : bdDisk 1000000000 c) : g_laws_toDisk N c = some c := by
  unfold g_laws_toDisk
  simp only [toStringS_eq hN c.1 h.1, toPendingS_eq hN c.2.1 h.2.1, toStringS_eq hN c.2.2 h.2.2, Option.bind_some]
theorem szStringS_l (N n : Nat) (c : List (List UInt8)) (m k : Int) : g_laws_szStringS.l5 N n c m k = szL (fun (e : List UInt8) m => some (wi (m - (e.length : Int)))) n c m k := by
  induction n generalizing m k with
  | zero => rfl
  | succ n ih => simp only [g_laws_szStringS.l5, szL, ih, Option.bind_some]
theorem szStringS_eq {N : Nat} (hN : 18446744073709551616 ≤ N) (c : List (List UInt8)) (left : Int) (h0 : 0 ≤ left) (hl : left ≤ 1048576) (h : bdStringS 9223372036854775807 c) : ∃ r : Int, g_laws_szStringS N c left = some r ∧ (0 ≤ r → r ≤ left ∧ bdStringS 1048576 c) := by
  have hh : c.length ≤ 9223372036854775807 := h.1
  unfold g_laws_szStringS
  by_cases q : left - (c.length : Int) < 0
  · exact ⟨-1, by simp (disch := omega) only [dec_t, cond_true, wi_of], fun h => absurd h (by omega)⟩
  · have key := szL_eq (p := (fun (e : List UInt8) m => some (wi (m - (e.length : Int))))) (Q := fun x => (x).length ≤ 1048576) (R := fun x => (x).length ≤ 9223372036854775807) N c 0 (left - (c.length : Int)) (fun x _ hx l h0 hl => ⟨l - (x.length : Int), by rw [wi_of (by omega) (by omega)], fun _ => ⟨by omega, by omega⟩⟩) h.2 (by omega) (by omega) (by omega) (by omega) (by omega) (by omega)
    rw [Int.natCast_zero] at key
    rcases key with e | ⟨m, e, k1, k2, k3⟩
    · exact ⟨-1, by simp (disch := omega) only [dec_f, cond_false, alt_inl, Option.bind_some, wi_of, szStringS_l, e], fun h => absurd h (by omega)⟩
    · exact ⟨m, by simp (disch := omega) only [dec_f, cond_false, alt_inr, Option.bind_some, wi_of, szStringS_l, e], fun _ => ⟨by omega, by omega, by simpa using k3⟩⟩
theorem szPending_eq {N : Nat} (hN : 18446744073709551616 ≤ N) (c : Int × List UInt8) (left : Int) (h0 : 0 ≤ left) (hl : left ≤ 1048576) (h : bdPending 9223372036854775807 c) : ∃ r : Int, g_laws_szPending N c left = some r ∧ (0 ≤ r → r ≤ left ∧ bdPending 1048576 c) := by
  unfold g_laws_szPending
  have b0 : c.2.length ≤ 9223372036854775807 := h
  by_cases q0 : left - (c.2.length : Int) < 0
  · exact ⟨-1, by simp (disch := omega) only [dec_t, cond_true, wi_of], fun h => absurd h (by omega)⟩
  exact ⟨left - (c.2.length : Int), by simp (disch := omega) only [dec_f, cond_false, wi_of], fun _ => ⟨by omega, by omega⟩⟩
theorem szPendingS_l (N n : Nat) (c : List (Int × List UInt8)) (m k : Int) : g_laws_szPendingS.l5 N n c m k = szL (g_laws_szPending N) n c m k := by
  induction n generalizing m k with
  | zero => rfl
  | succ n ih => simp only [g_laws_szPendingS.l5, szL, ih]
theorem szPendingS_eq {N : Nat} (hN : 18446744073709551616 ≤ N) (c : List (Int × List UInt8)) (left : Int) (h0 : 0 ≤ left) (hl : left ≤ 1048576) (h : bdPendingS 9223372036854775807 c) : ∃ r : Int, g_laws_szPendingS N c left = some r ∧ (0 ≤ r → r ≤ left ∧ bdPendingS 1048576 c) := by
  have hh : c.length ≤ 9223372036854775807 := h.1
  unfold g_laws_szPendingS
  by_cases q : left - (c.length : Int) < 0
  · exact ⟨-1, by simp (disch := omega) only [dec_t, cond_true, wi_of], fun h => absurd h (by omega)⟩
  · have key := szL_eq (p := (g_laws_szPending N)) (Q := fun x => bdPending 1048576 x) (R := fun x => bdPending 9223372036854775807 x) N c 0 (left - (c.length : Int)) (fun x _ hx l h0 hl => szPending_eq hN x l h0 hl hx) h.2 (by omega) (by omega) (by omega) (by omega) (by omega) (by omega)
    rw [Int.natCast_zero] at key
    rcases key with e | ⟨m, e, k1, k2, k3⟩
    · exact ⟨-1, by simp (disch := omega) only [dec_f, cond_false, alt_inl, Option.bind_some, wi_of, szPendingS_l, e], fun h => absurd h (by omega)⟩
    · exact ⟨m, by simp (disch := omega) only [dec_f, cond_false, alt_inr, Option.bind_some, wi_of, szPendingS_l, e], fun _ => ⟨by omega, by omega, by simpa using k3⟩⟩
theorem szDisk_eq {N : Nat} (hN : 18446744073709551616 ≤ N) (c : List (List UInt8) × List (Int × List UInt8) × List (List UInt8)) (left : Int) (h0 : 0 ≤ left) (hl : left ≤ 1048576) (h : bdDisk 9223372036854775807 c) : ∃ r : Int, g_laws_szDisk N c left = some r ∧ (0 ≤ r → r ≤ left ∧ bdDisk 1048576 c) := by
  unfold g_laws_szDisk
  obtain ⟨r0, e0, k0⟩ := szStringS_eq hN c.1 (left) (by omega) (by omega) h.1
  by_cases q0 : r0 < 0
  · exact ⟨-1, by simp (disch := omega) only [dec_t, cond_true, Option.bind_some, e0], fun h => absurd h (by omega)⟩
  obtain ⟨ka0, kb0⟩ := k0 (by omega)
  obtain ⟨r1, e1, k1⟩ := szPendingS_eq hN c.2.1 (r0) (by omega) (by omega) h.2.1
  by_cases q1 : r1 < 0
  · exact ⟨-1, by simp (disch := omega) only [dec_t, dec_f, cond_true, cond_false, Option.bind_some, e0, e1], fun h => absurd h (by omega)⟩
  obtain ⟨ka1, kb1⟩ := k1 (by omega)
  obtain ⟨r2, e2, k2⟩ := szStringS_eq hN c.2.2 (r1) (by omega) (by omega) h.2.2
  by_cases q2 : r2 < 0
  · exact ⟨-1, by simp (disch := omega) only [dec_t, dec_f, cond_true, cond_false, Option.bind_some, e0, e1, e2], fun h => absurd h (by omega)⟩
  obtain ⟨ka2, kb2⟩ := k2 (by omega)
  exact ⟨r2, by simp (disch := omega) only [dec_f, cond_false, Option.bind_some, e0, e1, e2], fun _ => ⟨by omega, ⟨kb0, kb1, kb2⟩⟩⟩
theorem eqStringS_l (N n : Nat) (c d : List (List UInt8)) (k : Int) : g_laws_eqStringS.l4 N n c d k = eqL (fun x y => some (decide (x = y))) n c d k := by
  induction n generalizing k with
  | zero => rfl
  | succ n ih => simp only [g_laws_eqStringS.l4, eqL, ih, beq_dec, Option.bind_some]
theorem eqStringS_eq {N : Nat} (hN : 18446744073709551616 ≤ N) (x y : List (List UInt8)) (h : bdStringS 1000000000 x) : g_laws_eqStringS N x y = some (decide (x = y)) := by
  have hl : x.length ≤ 1000000000 := h.1
  unfold g_laws_eqStringS
  simp only [eqStringS_l]
  exact eqS_eq x y (fun _ _ _ => rfl) (by omega) (by omega)
theorem eqPending_eq {N : Nat} (hN : 18446744073709551616 ≤ N) (x y : Int × List UInt8) (h : bdPending 1000000000 x) : g_laws_eqPending N x y = some (decide (x = y)) := by
  obtain ⟨x0, x1⟩ := x
  obtain ⟨y0, y1⟩ := y
  simp only [g_laws_eqPending, bne_dec, beq_dec, Prod.mk.injEq]
  by_cases h0 : x0 = y0 <;> by_cases h1 : x1 = y1 <;> simp only [h0, h1, decide_true, decide_false, Bool.not_true, Bool.not_false, cond_true, cond_false, and_true, and_false, and_self]
theorem eqPendingS_l (N n : Nat) (c d : List (Int × List UInt8)) (k : Int) : g_laws_eqPendingS.l4 N n c d k = eqL (g_laws_eqPending N) n c d k := by
  induction n generalizing k with
  | zero => rfl
  | succ n ih => simp only [g_laws_eqPendingS.l4, eqL, ih]
theorem eqPendingS_eq {N : Nat} (hN : 18446744073709551616 ≤ N) (x y : List (Int × List UInt8)) (h : bdPendingS 1000000000 x) : g_laws_eqPendingS N x y = some (decide (x = y)) := by
  have hl : x.length ≤ 1000000000 := h.1
  unfold g_laws_eqPendingS
  simp only [eqPendingS_l]
  exact eqS_eq x y (fun z hz y => eqPending_eq hN z y (h.2 z hz)) (by omega) (by omega)
theorem eqDisk_eq {N : Nat} (hN : 18446744073709551616 ≤ N) (x y : List (List UInt8) × List (Int × List UInt8) × List (List UInt8)) (h : bdDisk 1000000000 x) : g_laws_eqDisk N x y = some (decide (x = y)) := by
  obtain ⟨x0, x1, x2⟩ := x
  obtain ⟨y0, y1, y2⟩ := y
  simp only [g_laws_eqDisk, eqStringS_eq hN x0 y0 h.1, eqPendingS_eq hN x1 y1 h.2.1, eqStringS_eq hN x2 y2 h.2.2, Option.bind_some, Prod.mk.injEq]
  by_cases h0 : x0 = y0 <;> by_cases h1 : x1 = y1 <;> by_cases h2 : x2 = y2 <;> simp only [h0, h1, h2, decide_true, decide_false, Bool.not_true, Bool.not_false, cond_true, cond_false, and_true, and_false, and_self]
def mkStringS (N : Nat) : Nat → List (List UInt8) → List (List UInt8)
  | _, [] => []
  | m, _ :: es => mtx N (m) :: mkStringS N (m + 1) es
theorem markStringS_l {N : Nat} (hN : 18446744073709551616 ≤ N) : ∀ (n m k : Nat) (done rest : List (List UInt8)), done.length = k → rest.length < n → k + rest.length ≤ 140737488355328 → m + 1 * rest.length ≤ 9000000000000000000 →
    g_laws_markStringS__ib.l2 N n (m : Int) (k : Int) (done ++ rest) = some (((m + 1 * rest.length : Nat) : Int), done ++ mkStringS N m rest)
  | 0, _, _, _, _, _, h, _, _ => by omega
  | n + 1, m, k, done, [], hk, hn, hl, hm => by
    unfold g_laws_markStringS__ib.l2
    subst hk
    simp (disch := omega) only [dec_t, dec_f, cond_false, gd_true, Int.toNat_natCast, bind_id, nc1, wi_of, List.length_nil, List.append_nil, mkStringS, Nat.mul_zero, Nat.add_zero]
  | n + 1, m, k, done, e :: es, hk, hn, hl, hm => by
    unfold g_laws_markStringS__ib.l2
    simp only [List.length_cons] at hn hl hm
    subst hk
    obtain ⟨t0, ht0⟩ := markText_some hN (m) (by omega)
    simp (disch := omega) only [dec_t, cond_true, gd_true, Int.toNat_natCast, Option.bind_some, bind_id, nc1, wi_of, List.length_append, List.length_cons, mid_get, mid_set, mtx, ht0, mkStringS]
    rw [List.append_cons, markStringS_l hN n (m + 1) (done.length + 1) _ es (by simp) (by omega) (by omega) (by omega)]
    simp only [List.append_assoc, List.singleton_append, Option.getD_some, Option.some.injEq, Prod.mk.injEq, and_true]
    omega
theorem heldStringS_l {N : Nat} (hN : 18446744073709551616 ≤ N) : ∀ (n m k : Nat) (done rest : List (List UInt8)), done.length = k → rest.length < n → k + rest.length ≤ 140737488355328 → m + 1 * rest.length ≤ 9000000000000000000 →
    g_laws_heldStringS.l2 N n (done ++ mkStringS N m rest) (m : Int) (k : Int) = some (.inr ((m + 1 * rest.length : Nat) : Int))
  | 0, _, _, _, _, _, h, _, _ => by omega
  | n + 1, m, k, done, [], hk, hn, hl, hm => by
    unfold g_laws_heldStringS.l2
    subst hk
    simp (disch := omega) only [dec_t, dec_f, cond_false, gd_true, Int.toNat_natCast, bind_id, nc1, wi_of, List.length_nil, List.append_nil, mkStringS, Nat.mul_zero, Nat.add_zero]
  | n + 1, m, k, done, e :: es, hk, hn, hl, hm => by
    unfold g_laws_heldStringS.l2
    simp only [List.length_cons] at hn hl hm
    subst hk
    obtain ⟨t0, ht0⟩ := markText_some hN (m) (by omega)
    simp (disch := omega) only [dec_t, cond_true, cond_false, gd_true, Bool.not_true, Int.toNat_natCast, Option.bind_some, bind_id, nc1, wi_of, List.length_append, List.length_cons, mid_get, mkStringS, mtx, ht0, Option.getD_some, beq_self_eq_true]
    rw [List.append_cons, heldStringS_l hN n (m + 1) (done.length + 1) _ es (by simp) (by omega) (by omega) (by omega)]
    congr 3
    omega
theorem StringS_held {N : Nat} (hN : 18446744073709551616 ≤ N) (c : List (List UInt8)) (m : Nat) (hm : m + 1000000000 ≤ 1000000000000000000) (h : bdStringS 1000000000 c) : ∃ o : List (List UInt8), ∃ k : Nat, g_laws_markStringS__ib N c (m : Int) = some (o, ((k : Nat) : Int)) ∧ m ≤ k ∧ k ≤ m + 1000000000 ∧ g_laws_heldStringS N o (m : Int) = some (k : Int) := by
  have hl : c.length ≤ 1000000000 := h.1
  have e1 := markStringS_l hN N m 0 [] c rfl (by omega) (by omega) (by omega)
  have e2 := heldStringS_l hN N m 0 [] c rfl (by omega) (by omega) (by omega)
  simp only [List.nil_append, Int.natCast_zero] at e1 e2
  refine ⟨mkStringS N m c, m + 1 * c.length, ?_, by omega, by omega, ?_⟩
  · unfold g_laws_markStringS__ib
    rw [e1]; rfl
  · unfold g_laws_heldStringS
    rw [e2]; rfl
def mkPendingS (N : Nat) : Nat → List (Int × List UInt8) → List (Int × List UInt8)
  | _, [] => []
  | m, _ :: es => (((m : Nat) : Int), mtx N (m + 1)) :: mkPendingS N (m + 1 + 1) es
theorem markPendingS_l {N : Nat} (hN : 18446744073709551616 ≤ N) : ∀ (n m k : Nat) (done rest : List (Int × List UInt8)), done.length = k → rest.length < n → k + rest.length ≤ 140737488355328 → m + 2 * rest.length ≤ 9000000000000000000 →
    g_laws_markPendingS__ib.l2 N n (m : Int) (k : Int) (done ++ rest) = some (((m + 2 * rest.length : Nat) : Int), done ++ mkPendingS N m rest)
  | 0, _, _, _, _, _, h, _, _ => by omega
  | n + 1, m, k, done, [], hk, hn, hl, hm => by
    unfold g_laws_markPendingS__ib.l2
    subst hk
    simp (disch := omega) only [dec_t, dec_f, cond_false, gd_true, Int.toNat_natCast, bind_id, nc1, wi_of, List.length_set, List.length_nil, List.append_nil, mkPendingS, Nat.mul_zero, Nat.add_zero]
  | n + 1, m, k, done, e :: es, hk, hn, hl, hm => by
    unfold g_laws_markPendingS__ib.l2
    simp only [List.length_cons] at hn hl hm
    subst hk
    obtain ⟨t1, ht1⟩ := markText_some hN (m + 1) (by omega)
    simp (disch := omega) only [dec_t, cond_true, gd_true, Int.toNat_natCast, Option.bind_some, bind_id, nc1, wi_of, List.length_append, List.length_cons, mid_get, mid_set, mtx, ht1, mkPendingS]
    rw [List.append_cons, markPendingS_l hN n (m + 1 + 1) (done.length + 1) _ es (by simp) (by omega) (by omega) (by omega)]
    simp only [List.append_assoc, List.singleton_append, Option.getD_some, Option.some.injEq, Prod.mk.injEq, and_true]
    omega
theorem heldPendingS_l {N : Nat} (hN : 18446744073709551616 ≤ N) : ∀ (n m k : Nat) (done rest : List (Int × List UInt8)), done.length = k → rest.length < n → k + rest.length ≤ 140737488355328 → m + 2 * rest.length ≤ 9000000000000000000 →
    g_laws_heldPendingS.l2 N n (done ++ mkPendingS N m rest) (m : Int) (k : Int) = some (.inr ((m + 2 * rest.length : Nat) : Int))
  | 0, _, _, _, _, _, h, _, _ => by omega
  | n + 1, m, k, done, [], hk, hn, hl, hm => by
    unfold g_laws_heldPendingS.l2
    subst hk
    simp (disch := omega) only [dec_t, dec_f, cond_false, gd_true, Int.toNat_natCast, bind_id, nc1, wi_of, List.length_nil, List.append_nil, mkPendingS, Nat.mul_zero, Nat.add_zero]
  | n + 1, m, k, done, e :: es, hk, hn, hl, hm => by
    unfold g_laws_heldPendingS.l2
    simp only [List.length_cons] at hn hl hm
    subst hk
    obtain ⟨t1, ht1⟩ := markText_some hN (m + 1) (by omega)
    simp (disch := omega) only [dec_t, cond_true, cond_false, gd_true, Bool.not_true, Int.toNat_natCast, Option.bind_some, bind_id, nc1, wi_of, List.length_append, List.length_cons, mid_get, mkPendingS, mtx, ht1, Option.getD_some, beq_self_eq_true, bne_self_eq_false]
    rw [List.append_cons, heldPendingS_l hN n (m + 1 + 1) (done.length + 1) _ es (by simp) (by omega) (by omega) (by omega)]
    congr 3
    omega
theorem PendingS_held {N : Nat} (hN : 18446744073709551616 ≤ N) (c : List (Int × List UInt8)) (m : Nat) (hm : m + 2000000000 ≤ 1000000000000000000) (h : bdPendingS 1000000000 c) : ∃ o : List (Int × List UInt8), ∃ k : Nat, g_laws_markPendingS__ib N c (m : Int) = some (o, ((k : Nat) : Int)) ∧ m ≤ k ∧ k ≤ m + 2000000000 ∧ g_laws_heldPendingS N o (m : Int) = some (k : Int) := by
  have hl : c.length ≤ 1000000000 := h.1
  have e1 := markPendingS_l hN N m 0 [] c rfl (by omega) (by omega) (by omega)
  have e2 := heldPendingS_l hN N m 0 [] c rfl (by omega) (by omega) (by omega)
  simp only [List.nil_append, Int.natCast_zero] at e1 e2
  refine ⟨mkPendingS N m c, m + 2 * c.length, ?_, by omega, by omega, ?_⟩
  · unfold g_laws_markPendingS__ib
    rw [e1]; rfl
  · unfold g_laws_heldPendingS
    rw [e2]; rfl
theorem Disk_held {N : Nat} (hN : 18446744073709551616 ≤ N) (c : List (List UInt8) × List (Int × List UInt8) × List (List UInt8)) (m : Nat) (hm : m + 4000000000 ≤ 1000000000000000000) (h : bdDisk 1000000000 c) : ∃ (o0_0 : List (List UInt8)) (o1_0 : List (Int × List UInt8)) (o2_0 : List (List UInt8)), ∃ k : Nat, g_laws_markDisk__ib N c (m : Int) = some (o0_0, o1_0, o2_0, ((k : Nat) : Int)) ∧ m ≤ k ∧ k ≤ m + 4000000000 ∧ g_laws_heldDisk N (o0_0, o1_0, o2_0) (m : Int) = some (k : Int) := by
  obtain ⟨o0_0, k0, e0, l0, u0, f0⟩ := StringS_held hN c.1 m (by omega) h.1
  obtain ⟨o1_0, k1, e1, l1, u1, f1⟩ := PendingS_held hN c.2.1 k0 (by omega) h.2.1
  obtain ⟨o2_0, k2, e2, l2, u2, f2⟩ := StringS_held hN c.2.2 k1 (by omega) h.2.2
  refine ⟨o0_0, o1_0, o2_0, k2, ?_, by omega, by omega, ?_⟩
  · unfold g_laws_markDisk__ib
    simp (disch := omega) only [Option.bind_some, e0, e1, e2]
  · unfold g_laws_heldDisk
    simp (disch := omega) only [dec_f, cond_false, Option.bind_some, f0, f1, f2]
theorem StringS_marked {N : Nat} (hN : 18446744073709551616 ≤ N) (c : List (List UInt8)) (m : Nat) (hm : m + 1000000000 ≤ 1000000000000000000) (h : bdStringS 1000000000 c) : ∃ o : List (List UInt8), ∃ k : Nat, g_laws_markStringS__ib N c (m : Int) = some (o, ((k : Nat) : Int)) ∧ m ≤ k ∧ k ≤ m + 1000000000 := by
  have hl : c.length ≤ 1000000000 := h.1
  have e1 := markStringS_l hN N m 0 [] c rfl (by omega) (by omega) (by omega)
  simp only [List.nil_append, Int.natCast_zero] at e1
  refine ⟨mkStringS N m c, m + 1 * c.length, ?_, by omega, by omega⟩
  unfold g_laws_markStringS__ib
  rw [e1]; rfl
theorem PendingS_marked {N : Nat} (hN : 18446744073709551616 ≤ N) (c : List (Int × List UInt8)) (m : Nat) (hm : m + 2000000000 ≤ 1000000000000000000) (h : bdPendingS 1000000000 c) : ∃ o : List (Int × List UInt8), ∃ k : Nat, g_laws_markPendingS__ib N c (m : Int) = some (o, ((k : Nat) : Int)) ∧ m ≤ k ∧ k ≤ m + 2000000000 := by
  have hl : c.length ≤ 1000000000 := h.1
  have e1 := markPendingS_l hN N m 0 [] c rfl (by omega) (by omega) (by omega)
  simp only [List.nil_append, Int.natCast_zero] at e1
  refine ⟨mkPendingS N m c, m + 2 * c.length, ?_, by omega, by omega⟩
  unfold g_laws_markPendingS__ib
  rw [e1]; rfl
theorem Disk_marked {N : Nat} (hN : 18446744073709551616 ≤ N) (c : List (List UInt8) × List (Int × List UInt8) × List (List UInt8)) (m : Nat) (hm : m + 4000000000 ≤ 1000000000000000000) (h : bdDisk 1000000000 c) : ∃ (o0_0 : List (List UInt8)) (o1_0 : List (Int × List UInt8)) (o2_0 : List (List UInt8)), ∃ k : Nat, g_laws_markDisk__ib N c (m : Int) = some (o0_0, o1_0, o2_0, ((k : Nat) : Int)) ∧ m ≤ k ∧ k ≤ m + 4000000000 := by
  obtain ⟨o0_0, k0, e0, l0, u0⟩ := StringS_marked hN c.1 m (by omega) h.1
  obtain ⟨o1_0, k1, e1, l1, u1⟩ := PendingS_marked hN c.2.1 k0 (by omega) h.2.1
  obtain ⟨o2_0, k2, e2, l2, u2⟩ := StringS_marked hN c.2.2 k1 (by omega) h.2.2
  refine ⟨o0_0, o1_0, o2_0, k2, ?_, by omega, by omega⟩
  unfold g_laws_markDisk__ib
  simp (disch := omega) only [Option.bind_some, e0, e1, e2]
abbrev bdBoolS (n : Nat) (x : List Bool) : Prop := x.length ≤ n
theorem bdBoolS_mono {n m : Nat} (hm : n ≤ m) {x : List Bool} (h : bdBoolS n x) : bdBoolS m x := Nat.le_trans h hm
abbrev bdDiskAct (n : Nat) (x : Int × Int × List UInt8 × List Bool × Int) : Prop := (x.2.2.1).length ≤ n ∧ bdBoolS n x.2.2.2.1
theorem bdDiskAct_mono {n m : Nat} (hm : n ≤ m) {x : Int × Int × List UInt8 × List Bool × Int} (h : bdDiskAct n x) : bdDiskAct m x := ⟨Nat.le_trans h.1 hm, bdBoolS_mono hm h.2⟩
theorem toBoolS_l (N n : Nat) (c ys : List Bool) (k : Int) : g_laws_toBoolS.l3 N n c k ys = toL2 some n c k ys := by
  induction n generalizing k ys with
  | zero => rfl
  | succ n ih => simp only [g_laws_toBoolS.l3, toL2, ih, Option.bind_some]
theorem toBoolS_eq {N : Nat} (hN : 18446744073709551616 ≤ N) (c : List Bool) (h : bdBoolS 1000000000 c) : g_laws_toBoolS N c = some c := by
  have hl : c.length ≤ 1000000000 := h
  unfold g_laws_toBoolS
  simp (disch := omega) only [toBoolS_l, dec_t, gd_true, Bool.and_self, Int.toNat_natCast, bind_id, room_t]
  rw [show (0 : Int) = ((0 : Nat) : Int) from rfl, toL2_eq (p := some) (f := id) N c 0 _ (fun _ _ => rfl) (by omega) (by omega) (by omega) (by omega) (by simp)]
  simp
theorem toDiskAct_eq {N : Nat} (hN : 18446744073709551616 ≤ N) (c : Int × Int × List UInt8 × List Bool × Int) (h : bdDiskAct 1000000000 c) : g_laws_toDiskAct N c = some c := by
  unfold g_laws_toDiskAct
  simp only [toBoolS_eq hN c.2.2.2.1 h.2, Option.bind_some]
theorem szBoolS_eq {N : Nat} (hN : 18446744073709551616 ≤ N) (c : List Bool) (left : Int) (h0 : 0 ≤ left) (hl : left ≤ 1048576) (h : bdBoolS 9223372036854775807 c) : ∃ r : Int, g_laws_szBoolS N c left = some r ∧ (0 ≤ r → r ≤ left ∧ bdBoolS 1048576 c) := by
  have hh : c.length ≤ 9223372036854775807 := h
  unfold g_laws_szBoolS
  by_cases q : left - (c.length : Int) < 0
  · exact ⟨-1, by simp (disch := omega) only [dec_t, cond_true, wi_of], fun h => absurd h (by omega)⟩
  · exact ⟨left - (c.length : Int), by simp (disch := omega) only [dec_f, cond_false, wi_of], fun _ => ⟨by omega, by show c.length ≤ 1048576; omega⟩⟩
theorem szDiskAct_eq {N : Nat} (hN : 18446744073709551616 ≤ N) (c : Int × Int × List UInt8 × List Bool × Int) (left : Int) (h0 : 0 ≤ left) (hl : left ≤ 1048576) (h : bdDiskAct 9223372036854775807 c) : ∃ r : Int, g_laws_szDiskAct N c left = some r ∧ (0 ≤ r → r ≤ left ∧ bdDiskAct 1048576 c) := by
  unfold g_laws_szDiskAct
  have b0 : c.2.2.1.length ≤ 9223372036854775807 := h.1
  by_cases q0 : left - (c.2.2.1.length : Int) < 0
  · exact ⟨-1, by simp (disch := omega) only [dec_t, cond_true, wi_of], fun h => absurd h (by omega)⟩
  obtain ⟨r1, e1, k1⟩ := szBoolS_eq hN c.2.2.2.1 (left - (c.2.2.1.length : Int)) (by omega) (by omega) h.2
  by_cases q1 : r1 < 0
  · exact ⟨-1, by simp (disch := omega) only [dec_t, dec_f, cond_true, cond_false, Option.bind_some, wi_of, e1], fun h => absurd h (by omega)⟩
  obtain ⟨ka1, kb1⟩ := k1 (by omega)
  exact ⟨r1, by simp (disch := omega) only [dec_f, cond_false, Option.bind_some, wi_of, e1], fun _ => ⟨by omega, ⟨by omega, kb1⟩⟩⟩
theorem eqBoolS_l (N n : Nat) (c d : List Bool) (k : Int) : g_laws_eqBoolS.l4 N n c d k = eqL (fun x y => some (decide (x = y))) n c d k := by
  induction n generalizing k with
  | zero => rfl
  | succ n ih => simp only [g_laws_eqBoolS.l4, eqL, ih, beq_dec, Option.bind_some]
theorem eqBoolS_eq {N : Nat} (hN : 18446744073709551616 ≤ N) (x y : List Bool) (h : bdBoolS 1000000000 x) : g_laws_eqBoolS N x y = some (decide (x = y)) := by
  have hl : x.length ≤ 1000000000 := h
  unfold g_laws_eqBoolS
  simp only [eqBoolS_l]
  exact eqS_eq x y (fun _ _ _ => rfl) (by omega) (by omega)
theorem eqDiskAct_eq {N : Nat} (hN : 18446744073709551616 ≤ N) (x y : Int × Int × List UInt8 × List Bool × Int) (h : bdDiskAct 1000000000 x) : g_laws_eqDiskAct N x y = some (decide (x = y)) := by
  obtain ⟨x0, x1, x2, x3, x4⟩ := x
  obtain ⟨y0, y1, y2, y3, y4⟩ := y
  simp only [g_laws_eqDiskAct, eqBoolS_eq hN x3 y3 h.2, bne_dec, beq_dec, Option.bind_some, Prod.mk.injEq]
  by_cases h0 : x0 = y0 <;> by_cases h1 : x1 = y1 <;> by_cases h2 : x2 = y2 <;> by_cases h3 : x3 = y3 <;> by_cases h4 : x4 = y4 <;> simp only [h0, h1, h2, h3, h4, decide_true, decide_false, Bool.not_true, Bool.not_false, cond_true, cond_false, and_true, and_false, and_self]
def mkBoolS (N : Nat) : Nat → List Bool → List Bool
  | _, [] => []
  | m, _ :: es => (((m : Nat) : Int).tmod 3 == 0) :: mkBoolS N (m + 1) es
theorem markBoolS_l {N : Nat} (hN : 18446744073709551616 ≤ N) : ∀ (n m k : Nat) (done rest : List Bool), done.length = k → rest.length < n → k + rest.length ≤ 140737488355328 → m + 1 * rest.length ≤ 9000000000000000000 →
    g_laws_markBoolS__ib.l2 N n (m : Int) (k : Int) (done ++ rest) = some (((m + 1 * rest.length : Nat) : Int), done ++ mkBoolS N m rest)
  | 0, _, _, _, _, _, h, _, _ => by omega
  | n + 1, m, k, done, [], hk, hn, hl, hm => by
    unfold g_laws_markBoolS__ib.l2
    subst hk
    simp (disch := omega) only [dec_t, dec_f, cond_false, gd_true, Int.toNat_natCast, bind_id, nc1, wi_of, List.length_nil, List.append_nil, mkBoolS, Nat.mul_zero, Nat.add_zero]
  | n + 1, m, k, done, e :: es, hk, hn, hl, hm => by
    unfold g_laws_markBoolS__ib.l2
    simp only [List.length_cons] at hn hl hm
    subst hk
    simp (disch := omega) only [dec_t, cond_true, gd_true, Int.toNat_natCast, Option.bind_some, bind_id, nc1, wi_of, List.length_append, List.length_cons, mid_get, mid_set, mkBoolS]
    rw [List.append_cons, markBoolS_l hN n (m + 1) (done.length + 1) _ es (by simp) (by omega) (by omega) (by omega)]
    simp only [List.append_assoc, List.singleton_append, Option.some.injEq, Prod.mk.injEq, and_true]
    omega
theorem BoolS_marked {N : Nat} (hN : 18446744073709551616 ≤ N) (c : List Bool) (m : Nat) (hm : m + 1000000000 ≤ 1000000000000000000) (h : bdBoolS 1000000000 c) : ∃ o : List Bool, ∃ k : Nat, g_laws_markBoolS__ib N c (m : Int) = some (o, ((k : Nat) : Int)) ∧ m ≤ k ∧ k ≤ m + 1000000000 := by
  have hl : c.length ≤ 1000000000 := h
  have e1 := markBoolS_l hN N m 0 [] c rfl (by omega) (by omega) (by omega)
  simp only [List.nil_append, Int.natCast_zero] at e1
  refine ⟨mkBoolS N m c, m + 1 * c.length, ?_, by omega, by omega⟩
  unfold g_laws_markBoolS__ib
  rw [e1]; rfl
theorem DiskAct_marked {N : Nat} (hN : 18446744073709551616 ≤ N) (c : Int × Int × List UInt8 × List Bool × Int) (m : Nat) (hm : m + 1000000000 ≤ 1000000000000000000) (h : bdDiskAct 1000000000 c) : ∃ (o3_0 : List Bool), ∃ k : Nat, g_laws_markDiskAct__ib N c (m : Int) = some (o3_0, ((k : Nat) : Int)) ∧ m ≤ k ∧ k ≤ m + 1000000000 := by
  obtain ⟨o3_0, k3, e3, l3, u3⟩ := BoolS_marked hN c.2.2.2.1 m (by omega) h.2
  refine ⟨o3_0, k3, ?_, by omega, by omega⟩
  unfold g_laws_markDiskAct__ib
  simp (disch := omega) only [bind_id, e3]
end Go.Vm
/- Disks: whether one is right, as the reference tells it; one act; the law of it. -/
set_option linter.unusedVariables false
set_option maxRecDepth 100000
namespace Go.Vm
theorem step_eq2 {N : Nat} (hN : 18446744073709551616 ≤ N) {d : DiskT} (h : OkD d) (a : ActT) (ha : a.2.2.1.length ≤ 2000000) (hk : a.2.2.2.1.length ≤ 2000000) : g_spec_l05Step N d a = some (dStep d a) := by
  obtain ⟨b, c, s⟩ := d
  obtain ⟨k, at_, dt, kp, t⟩ := a
  have h1 := h.b1; have h2 := h.b2; have h3 := h.c1; have h4 := h.s3
  dsimp only at h1 h2 h3 h4 ha hk
  have eO := sOwn_eq N b c s (by omega) (by omega) (by omega)
  have eS : g_spec_l05Sync N (b, c, s) = some (pSync b c, [], s) := by
    unfold g_spec_l05Sync
    have := sync_l3 N b s c N 0 c b s (by omega) (by omega) (by omega) (by omega) fun p hp => ⟨(h.c2 p hp).1, (h.c2 p hp).2.1⟩
    simp only [Int.natCast_zero, List.drop_zero] at this
    simp only [eO, this, Option.bind_some]
  have eC : g_spec_l05Crash N (b, c, s) kp t = some (pCrash kp t false 0 c b, [], s) := by
    unfold g_spec_l05Crash
    have := crash_l5 N kp t b s [] s hk N 0 false c b (by omega) (by omega) (by omega) (by omega) h.b3 h.c2
    simp only [Int.natCast_zero, List.drop_zero, Bool.not_false] at this
    simp only [eO, this, Option.bind_some]
  unfold g_spec_l05Step dStep
  dsimp only
  simp only [dIn, eO, eS, eC, Option.bind_some]
  by_cases e1 : k = 1
  · subst e1
    rw [if_pos (show (1 : Int) = 1 ∨ (1 : Int) = 6 from .inl rfl), if_neg (show ¬ (1 : Int) = 6 by omega)]
    by_cases p1 : 0 ≤ at_ ∧ at_ ≤ (b.length : Int) - 1
    · by_cases p2 : 200 < dt.length
      · simp (disch := omega) only [if_pos p1, if_pos p2, dec_t, cond_true, cond_false, gd_true, Bool.not_true, Bool.and_self, wi_of, room_t, beq_ti, beq_fi, List.length_cons, List.length_nil]
      · by_cases p3 : c.length = 4096
        · simp (disch := omega) only [if_pos p1, if_neg p2, if_pos p3, dec_t, dec_f, cond_true, cond_false, gd_true, Bool.not_true, Bool.and_self, wi_of, room_t, beq_ti, beq_fi, List.length_cons, List.length_nil]
        · simp (disch := omega) only [if_pos p1, if_neg p2, if_neg p3, dec_t, dec_f, cond_true, cond_false, gd_true, Bool.not_true, Bool.and_self, wi_of, room_t, beq_ti, beq_fi, List.length_cons, List.length_nil]
    · have e : (decide (0 ≤ at_) && decide (at_ ≤ (b.length : Int) - 1)) = false := by
        by_cases q : 0 ≤ at_
        · rw [dec_f (p := at_ ≤ (b.length : Int) - 1) (by omega), Bool.and_false]
        · rw [dec_f q, Bool.false_and]
      simp (disch := omega) only [if_neg p1, e, cond_true, cond_false, gd_true, Bool.not_false, wi_of, room_t, beq_ti, beq_fi, List.length_cons, List.length_nil]
  · by_cases e6 : k = 6
    · subst e6
      rw [if_pos (show (6 : Int) = 1 ∨ (6 : Int) = 6 from .inr rfl), if_pos (show (6 : Int) = 6 from rfl)]
      by_cases p1 : 0 ≤ at_ ∧ at_ ≤ (b.length : Int) - 1
      · have hb : at_.toNat < b.length := by omega
        by_cases p2 : 200 < dt.length
        · simp (disch := omega) only [if_pos p1, if_pos p2, dec_t, cond_true, cond_false, gd_true, Bool.not_true, Bool.and_self, wi_of, room_t, beq_ti, beq_fi, List.length_cons, List.length_nil]
        · simp (disch := omega) only [if_pos p1, if_neg p2, dec_t, dec_f, cond_true, cond_false, gd_true, Bool.not_true, Bool.and_self, get_t, Option.bind_some, wi_of, room_t, beq_ti, beq_fi, List.length_cons, List.length_nil]
      · have e : (decide (0 ≤ at_) && decide (at_ ≤ (b.length : Int) - 1)) = false := by
          by_cases q : 0 ≤ at_
          · rw [dec_f (p := at_ ≤ (b.length : Int) - 1) (by omega), Bool.and_false]
          · rw [dec_f q, Bool.false_and]
        simp (disch := omega) only [if_neg p1, e, cond_true, cond_false, gd_true, Bool.not_false, wi_of, room_t, beq_ti, beq_fi, List.length_cons, List.length_nil]
    · rw [if_neg (show ¬ (k = 1 ∨ k = 6) by omega)]
      simp (disch := omega) only [cond_false, gd_true, wi_of, room_t, beq_fi, List.length_cons, List.length_nil]
      by_cases e2 : k = 2
      · simp (disch := omega) only [if_pos e2, cond_true, cond_false, beq_ti, beq_fi]
      · simp (disch := omega) only [if_neg e2, cond_false, beq_fi]
        by_cases e3 : k = 3
        · simp (disch := omega) only [if_pos e3, cond_true, cond_false, beq_ti, beq_fi]
        · simp (disch := omega) only [if_neg e3, cond_false, beq_fi]
          by_cases e4 : k = 4
          · simp (disch := omega) only [if_pos e4, cond_true, cond_false, beq_ti, beq_fi, List.nil_append]
          · simp (disch := omega) only [if_neg e4, cond_false, beq_fi]
            by_cases e5 : k = 5
            · simp (disch := omega) only [if_pos e5, cond_true, beq_ti]
              by_cases p : s.length = 0
              · simp (disch := omega) only [if_pos p, cond_true, beq_ti]
              · simp (disch := omega) only [if_neg p, cond_false, beq_fi, List.nil_append]
            · simp (disch := omega) only [if_neg e5, cond_false, beq_fi]
theorem sOK_l4 (N : Nat) (b s : List (List UInt8)) (c : List (Int × List UInt8)) (hb : b.length ≤ 1000000000) : ∀ (n k : Nat), b.length ≤ k + n - 1 → 0 < n → k ≤ b.length →
    g_spec_DiskOK.l4 N n (k : Int) b c s = some (bif (b.drop k).all (fun x => decide (x.length ≤ 200)) then .inr (b, c, s) else .inl false)
  | 0, _, _, h, _ => by omega
  | n + 1, k, hn, _, hk => by
    unfold g_spec_DiskOK.l4
    by_cases h : k < b.length
    · rw [drop_get h, List.all_cons]
      by_cases h2 : b[k].length ≤ 200
      · simp (disch := omega) only [dec_t, dec_f, cond_true, cond_false, gd_true, Bool.true_and, Int.toNat_natCast, get_t, Option.bind_some, bind_id, nc1, wi_of, sOK_l4 N b s c hb n (k + 1)]
      · simp (disch := omega) only [dec_t, dec_f, cond_true, cond_false, gd_true, Int.toNat_natCast, get_t, Option.bind_some, bind_id, nc1, wi_of, Bool.false_and]
    · simp (disch := omega) only [dec_t, dec_f, cond_true, cond_false, gd_true, Int.toNat_natCast, bind_id, nc1, wi_of, List.drop_of_length_le, List.all_nil]
theorem sOK_l9 (N : Nat) (b s : List (List UInt8)) (c : List (Int × List UInt8)) (hb : s.length ≤ 1000000000) : ∀ (n k : Nat), s.length ≤ k + n - 1 → 0 < n → k ≤ s.length →
    g_spec_DiskOK.l9 N n (k : Int) b c s = some (bif (s.drop k).all (fun x => decide (x.length ≤ 200)) then .inr (b, c, s) else .inl false)
  | 0, _, _, h, _ => by omega
  | n + 1, k, hn, _, hk => by
    unfold g_spec_DiskOK.l9
    by_cases h : k < s.length
    · rw [drop_get h, List.all_cons]
      by_cases h2 : s[k].length ≤ 200
      · simp (disch := omega) only [dec_t, dec_f, cond_true, cond_false, gd_true, Bool.true_and, Int.toNat_natCast, get_t, Option.bind_some, bind_id, nc1, wi_of, sOK_l9 N b s c hb n (k + 1)]
      · simp (disch := omega) only [dec_t, dec_f, cond_true, cond_false, gd_true, Int.toNat_natCast, get_t, Option.bind_some, bind_id, nc1, wi_of, Bool.false_and]
    · simp (disch := omega) only [dec_t, dec_f, cond_true, cond_false, gd_true, Int.toNat_natCast, bind_id, nc1, wi_of, List.drop_of_length_le, List.all_nil]
theorem sOK_l14 (N : Nat) (b s : List (List UInt8)) (c : List (Int × List UInt8)) (hb : c.length ≤ 1000000000) (hb2 : b.length ≤ 1000000000) : ∀ (n k : Nat), c.length ≤ k + n - 1 → 0 < n → k ≤ c.length →
    g_spec_DiskOK.l14 N n (k : Int) b c s = some (bif (c.drop k).all (goodP b.length) then .inr () else .inl false)
  | 0, _, _, h, _ => by omega
  | n + 1, k, hn, _, hk => by
    unfold g_spec_DiskOK.l14
    by_cases h : k < c.length
    · rw [drop_get h, List.all_cons, goodP]
      by_cases q1 : 0 ≤ c[k].1
      · by_cases q2 : c[k].1 ≤ (b.length : Int) - 1
        · by_cases h2 : c[k].2.length ≤ 200
          · simp (disch := omega) only [dIn, dec_t, dec_f, cond_true, cond_false, gd_true, Bool.not_true, Bool.true_and, Bool.and_self, Int.toNat_natCast, get_t, Option.bind_some, bind_id, nc1, wi_of, sOK_l14 N b s c hb hb2 n (k + 1)]
          · simp (disch := omega) only [dIn, dec_t, dec_f, cond_true, cond_false, gd_true, Bool.not_true, Bool.and_self, Int.toNat_natCast, get_t, Option.bind_some, bind_id, nc1, wi_of, Bool.and_false, Bool.false_and]
        · simp (disch := omega) only [dIn, dec_t, dec_f, cond_true, cond_false, gd_true, Bool.not_false, Int.toNat_natCast, get_t, Option.bind_some, bind_id, nc1, wi_of, Bool.and_false, Bool.false_and]
      · simp (disch := omega) only [dIn, dec_t, dec_f, cond_true, cond_false, gd_true, Bool.not_false, Bool.and_true, Int.toNat_natCast, get_t, Option.bind_some, bind_id, nc1, wi_of, Bool.false_and]
    · simp (disch := omega) only [dec_t, dec_f, cond_true, cond_false, gd_true, Int.toNat_natCast, bind_id, nc1, wi_of, List.drop_of_length_le, List.all_nil]
theorem sDiskOK_any {N : Nat} (hN : 18446744073709551616 ≤ N) (d : DiskT) (h1 : d.1.length ≤ 1000000000) (h2 : d.2.1.length ≤ 1000000000) (h3 : d.2.2.length ≤ 1000000000) : g_spec_DiskOK N d = some (okDB d) := by
  obtain ⟨b, c, s⟩ := d
  dsimp only at h1 h2 h3
  have e1 := sOK_l4 N b s c h1 N 0 (by omega) (by omega) (by omega)
  have e2 := sOK_l9 N b s c h3 N 0 (by omega) (by omega) (by omega)
  have e3 := sOK_l14 N b s c h2 h1 N 0 (by omega) (by omega) (by omega)
  simp only [Int.natCast_zero, List.drop_zero] at e1 e2 e3
  unfold g_spec_DiskOK okDB
  simp only [dIn, e1, Option.bind_some]
  by_cases q1 : 1 ≤ b.length
  · by_cases q2 : b.length ≤ 64
    · by_cases q4 : c.length ≤ 4096
      · by_cases q6 : s.length = 0
        · simp (disch := omega) only [dec_t, dec_f, cond_true, cond_false, Bool.not_true, Bool.and_true, Bool.true_and, Bool.and_self, bne_ti, bne_fi, Bool.true_or]
          cases b.all (fun x => decide (x.length ≤ 200))
          · simp only [cond_false, Bool.false_and, alt_inl]
          · simp only [cond_true, Bool.true_and, alt_inr, e2, Option.bind_some]
            cases s.all (fun x => decide (x.length ≤ 200)) <;> simp only [cond_true, cond_false, alt_inl, alt_inr, e3, Option.bind_some, Bool.and_false, Bool.and_true] <;> cases c.all (goodP b.length) <;> rfl
        · by_cases q7 : s.length = b.length
          · simp (disch := omega) only [dec_t, dec_f, cond_true, cond_false, Bool.not_true, Bool.and_true, Bool.true_and, Bool.and_self, bne_ti, bne_fi, Bool.false_or]
            cases b.all (fun x => decide (x.length ≤ 200))
            · simp only [cond_false, Bool.false_and, alt_inl]
            · simp only [cond_true, Bool.true_and, alt_inr, e2, Option.bind_some]
              cases s.all (fun x => decide (x.length ≤ 200)) <;> simp only [cond_true, cond_false, alt_inl, alt_inr, e3, Option.bind_some, Bool.and_false, Bool.and_true] <;> cases c.all (goodP b.length) <;> rfl
          · simp (disch := omega) only [dec_t, dec_f, cond_true, cond_false, Bool.not_true, Bool.and_true, Bool.true_and, Bool.and_self, bne_ti, Bool.or_self, Bool.and_false, Bool.false_and]
      · simp (disch := omega) only [dec_t, dec_f, cond_true, cond_false, Bool.not_true, Bool.true_and, Bool.and_self, Bool.and_false, Bool.false_and]
    · simp (disch := omega) only [dec_t, dec_f, cond_true, Bool.not_false, Bool.and_false, Bool.false_and]
  · simp (disch := omega) only [dec_t, dec_f, cond_true, Bool.not_false, Bool.and_true, Bool.false_and]
/-- One act, on any disk. -/
def dStepAny (d : DiskT) (a : ActT) : DiskT × Int := if okDB d = true then dStep d a else (([], [], []), 1)
theorem dOwn (N : Nat) {d : DiskT} (h : OkD d) : g_impl_Disk_own N d = some d := by
  obtain ⟨b, c, s⟩ := d
  have h1 := h.b2; have h2 := h.c1; have h3 := h.s3
  dsimp only at h1 h2 h3
  exact own_eq N b c s (by omega) (by omega) (by omega)
theorem dOwnS (N : Nat) {d : DiskT} (h : OkD d) : g_spec_l05Own N d = some d := by
  obtain ⟨b, c, s⟩ := d
  have h1 := h.b2; have h2 := h.c1; have h3 := h.s3
  dsimp only at h1 h2 h3
  exact sOwn_eq N b c s (by omega) (by omega) (by omega)
theorem iDiskStep {N : Nat} (hN : 18446744073709551616 ≤ N) (d : DiskT) (a : ActT) (h1 : d.1.length ≤ 1048576) (h2 : d.2.1.length ≤ 1048576) (h3 : d.2.2.length ≤ 1048576) (ha : a.2.2.1.length ≤ 2000000) (hk : a.2.2.2.1.length ≤ 2000000) : g_impl_DiskStep N d a = some (dStepAny d a) := by
  unfold g_impl_DiskStep dStepAny
  rw [iDiskOK_any hN d (by omega) (by omega) (by omega), Option.bind_some]
  cases h : okDB d
  · rfl
  · have hd := okDB_spec h
    simp only [Bool.not_true, cond_false, if_true, dOwn N hd, Option.bind_some, act_eq hN hd a ha hk, dOwn N (dStep_ok hd a)]
theorem sDiskStep {N : Nat} (hN : 18446744073709551616 ≤ N) (d : DiskT) (a : ActT) (h1 : d.1.length ≤ 1048576) (h2 : d.2.1.length ≤ 1048576) (h3 : d.2.2.length ≤ 1048576) (ha : a.2.2.1.length ≤ 2000000) (hk : a.2.2.2.1.length ≤ 2000000) : g_spec_DiskStep N d a = some (dStepAny d a) := by
  unfold g_spec_DiskStep dStepAny
  rw [sDiskOK_any hN d (by omega) (by omega) (by omega), Option.bind_some]
  cases h : okDB d
  · rfl
  · have hd := okDB_spec h
    simp only [Bool.not_true, cond_false, if_true, Option.bind_some, step_eq2 hN hd a ha hk, dOwnS N (dStep_ok hd a)]
theorem okD_bd {d : DiskT} (h : OkD d) : bdDisk 1048576 d := by
  have h1 := h.b2; have h2 := h.c1; have h3 := h.s3
  exact ⟨⟨by omega, fun y hy => by have := h.b3 y hy; omega⟩, ⟨by omega, fun y hy => by have := (h.c2 y hy).2.2; omega⟩, ⟨by omega, fun y hy => by have := h.s2 y hy; omega⟩⟩
theorem dStepAny_bd (d : DiskT) (a : ActT) : bdDisk 1048576 (dStepAny d a).1 := by
  unfold dStepAny
  split
  · rename_i h
    exact okD_bd (dStep_ok (okDB_spec h) a)
  · exact ⟨⟨by simp, by simp⟩, ⟨by simp, by simp⟩, ⟨by simp, by simp⟩⟩
theorem FnExactDiskStep_true {N : Nat} (hN : 18446744073709551616 ≤ N) (d : DiskT) (a : ActT) (h1 : bdDisk 9223372036854775807 d) (h2 : bdDiskAct 9223372036854775807 a) : g_laws_FnExactDiskStep N d a = some true := by
  unfold g_laws_FnExactDiskStep
  obtain ⟨r1, e1, k1⟩ := szDisk_eq hN d 1048576 (by omega) (by omega) h1
  by_cases q1 : r1 < 0
  · simp (disch := omega) only [dec_t, cond_true, Option.bind_some, e1]
  obtain ⟨k1a, k1b⟩ := k1 (by omega)
  obtain ⟨r2, e2, k2⟩ := szDiskAct_eq hN a r1 (by omega) (by omega) h2
  by_cases q2 : r2 < 0
  · simp (disch := omega) only [dec_t, dec_f, cond_true, cond_false, Option.bind_some, e1, e2]
  obtain ⟨k2a, k2b⟩ := k2 (by omega)
  have b1 := bdDisk_mono (show 1048576 ≤ 1000000000 by omega) k1b
  have b2 := bdDiskAct_mono (show 1048576 ≤ 1000000000 by omega) k2b
  have t1 := toDisk_eq hN d b1
  have t2 := toDiskAct_eq hN a b2
  have c1 : d.1.length ≤ 1048576 := k1b.1.1
  have c2 : d.2.1.length ≤ 1048576 := k1b.2.1.1
  have c3 : d.2.2.length ≤ 1048576 := k1b.2.2.1
  have c4 : a.2.2.1.length ≤ 1048576 := k2b.1
  have c5 : a.2.2.2.1.length ≤ 1048576 := k2b.2
  have f1 := iDiskStep hN d a (by omega) (by omega) (by omega) (by omega) (by omega)
  have f2 := sDiskStep hN d a (by omega) (by omega) (by omega) (by omega) (by omega)
  have hg := bdDisk_mono (show 1048576 ≤ 1000000000 by omega) (dStepAny_bd d a)
  have g1 := eqDisk_eq hN (dStepAny d a).1 (dStepAny d a).1 hg
  have g2 := eqDisk_eq hN d d b1
  have g3 := eqDiskAct_eq hN a a b2
  obtain ⟨o1, o2, o3, m1, n1, n2, n3⟩ := Disk_marked hN d 1 (by omega) b1
  obtain ⟨o4, m2, n4, n5, n6⟩ := DiskAct_marked hN a m1 (by omega) b2
  obtain ⟨o5, o6, o7, m3, n7, n8, n9, n10⟩ := Disk_held hN (dStepAny d a).1 1 (by omega) hg
  rw [show ((1 : Nat) : Int) = 1 from rfl] at n1 n7 n10
  simp (disch := omega) only [dec_f, decide_true, cond_false, Bool.not_true, Option.bind_some, bne_fi, e1, e2, t1, t2, f1, f2, g1, g2, g3, n1, n4, n7, n10]
theorem law_FnExactDiskStep (d : DiskT) (a : ActT) (h1 : InR (.st (.pair (.sl .str) (.pair (.sl (.st (.pair (.int .i64) .str))) (.sl .str)))) d) (h2 : InR (.st (.pair (.int .i64) (.pair (.int .i64) (.pair .str (.pair (.sl .bool) (.int .i64)))))) a) : ∃ N, g_laws_FnExactDiskStep N d a = some true :=
  ⟨18446744073709551616, FnExactDiskStep_true (Nat.le_refl _) d a ⟨h1.1, ⟨h1.2.1.1, fun y hy => (h1.2.1.2 y hy).2⟩, h1.2.2⟩ ⟨h2.2.2.1, h2.2.2.2.1.1⟩⟩
end Go.Vm

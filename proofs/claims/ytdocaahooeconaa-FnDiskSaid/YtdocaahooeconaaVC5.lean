/- A part of the proof: an abstract machine, mirrors and their laws, one text behind the other. -/
import Derived.Test.YtdocaahooeconaaVC4
/- Disks: what the program and the reference do, in plain words. -/
set_option linter.unusedVariables false
set_option maxRecDepth 100000
namespace Go.Vm
abbrev DiskT := List (List UInt8) × List (Int × List UInt8) × List (List UInt8)
abbrev ActT := Int × Int × List UInt8 × List Bool × Int
structure OkD (d : DiskT) : Prop where
  b1 : 1 ≤ d.1.length
  b2 : d.1.length ≤ 64
  b3 : ∀ x ∈ d.1, x.length ≤ 200
  c1 : d.2.1.length ≤ 4096
  c2 : ∀ p ∈ d.2.1, 0 ≤ p.1 ∧ p.1 < (d.1.length : Int) ∧ p.2.length ≤ 200
  s1 : d.2.2 = [] ∨ d.2.2.length = d.1.length
  s2 : ∀ x ∈ d.2.2, x.length ≤ 200
theorem OkD.s3 {d : DiskT} (h : OkD d) : d.2.2.length ≤ 64 := by
  rcases h.s1 with e | e
  · rw [e]; simp
  · rw [e]; exact h.b2
theorem dWithin (N : Nat) (x a b : Int) : g_impl_within N x a b = some (decide (a ≤ x) && decide (x ≤ b)) := by
  unfold g_impl_within
  by_cases h : a ≤ x <;> simp [h]
theorem dIn (N : Nat) (x a b : Int) : g_spec_l01In N x a b = some (decide (a ≤ x) && decide (x ≤ b)) := by
  unfold g_spec_l01In
  by_cases h : a ≤ x <;> simp [h]
theorem cloneS (N : Nat) (xs : List (List UInt8)) (h : xs.length ≤ 100000) : g_slices_Clone_Sstring_string N xs = some xs := by
  unfold g_slices_Clone_Sstring_string g_slices_Clone_Sstring_string_v
  cases xs with
  | nil => rfl
  | cons x xs => simp (disch := omega) only [List.isEmpty_cons, cond_false, gd_true, room_t, List.length_cons, List.nil_append] at h ⊢
theorem cloneP (N : Nat) (xs : List (Int × List UInt8)) (h : xs.length ≤ 100000) : g_slices_Clone_Simpl_Pending_impl_Pending N xs = some xs := by
  unfold g_slices_Clone_Simpl_Pending_impl_Pending g_slices_Clone_Simpl_Pending_impl_Pending_v
  cases xs with
  | nil => rfl
  | cons x xs => simp (disch := omega) only [List.isEmpty_cons, cond_false, gd_true, room_t, List.length_cons, List.nil_append] at h ⊢
theorem own_eq (N : Nat) (b : List (List UInt8)) (c : List (Int × List UInt8)) (s : List (List UInt8)) (h1 : b.length ≤ 100000) (h2 : c.length ≤ 100000) (h3 : s.length ≤ 100000) : g_impl_Disk_own N (b, c, s) = some (b, c, s) := by
  unfold g_impl_Disk_own
  simp only [cloneS N b h1, cloneP N c h2, cloneS N s h3, Option.bind_some]
theorem sOwn_eq (N : Nat) (b : List (List UInt8)) (c : List (Int × List UInt8)) (s : List (List UInt8)) (h1 : b.length ≤ 100000) (h2 : c.length ≤ 100000) (h3 : s.length ≤ 100000) : g_spec_l05Own N (b, c, s) = some (b, c, s) := by
  unfold g_spec_l05Own
  simp (disch := omega) only [gd_true, room_t, List.nil_append]
def pSync (b : List (List UInt8)) : List (Int × List UInt8) → List (List UInt8)
  | [] => b
  | p :: c => pSync (b.set p.1.toNat p.2) c
theorem pSync_length : ∀ (c : List (Int × List UInt8)) (b : List (List UInt8)), (pSync b c).length = b.length
  | [], _ => rfl
  | p :: c, b => by rw [pSync, pSync_length c]; simp
theorem pSync_short : ∀ (c : List (Int × List UInt8)) (b : List (List UInt8)), (∀ x ∈ b, x.length ≤ 200) → (∀ p ∈ c, p.2.length ≤ 200) → ∀ x ∈ pSync b c, x.length ≤ 200
  | [], _, h, _ => h
  | p :: c, b, h, hc => pSync_short c _ (fun x hx => by
      rcases List.mem_or_eq_of_mem_set hx with h' | rfl
      · exact h x h'
      · exact hc p (by simp)) (fun q hq => hc q (by simp [hq]))
theorem sync_l1 (N : Nat) : ∀ (n k : Nat) (c : List (Int × List UInt8)) (b s : List (List UInt8)), c.length ≤ k + n - 1 → 0 < n → k ≤ c.length → c.length ≤ 1000000 → (∀ p ∈ c, 0 ≤ p.1 ∧ p.1 < (b.length : Int)) →
    g_impl_Disk_sync__p.l1 N n (c.length : Int) (k : Int) c b s = some (pSync b (c.drop k), c, s)
  | 0, _, _, _, _, _, h, _, _, _ => by omega
  | n + 1, k, c, b, s, hn, _, hk, hl, hc => by
    unfold g_impl_Disk_sync__p.l1
    by_cases h : k < c.length
    · obtain ⟨h1, h2⟩ := hc _ (List.getElem_mem h)
      rw [drop_get h]
      simp (disch := omega) only [dec_t, cond_true, gd_true, Int.toNat_natCast, get_t, Option.bind_some, bind_id, nc1, wi_of]
      rw [sync_l1 N n (k + 1) c _ s (by omega) (by omega) (by omega) hl (by simpa using hc)]
      rfl
    · simp (disch := omega) only [dec_t, dec_f, cond_false, gd_true, Int.toNat_natCast, bind_id, nc1, wi_of, List.drop_of_length_le, pSync]
theorem sync_l3 (N : Nat) (m1 : List (List UInt8)) (m3 : List (List UInt8)) (m5 : List (Int × List UInt8)) : ∀ (n k : Nat) (c : List (Int × List UInt8)) (b s : List (List UInt8)), c.length ≤ k + n - 1 → 0 < n → k ≤ c.length → c.length ≤ 1000000 → (∀ p ∈ c, 0 ≤ p.1 ∧ p.1 < (b.length : Int)) →
    g_spec_l05Sync.l3 N n (k : Int) m1 c m3 b m5 s = some (pSync b (c.drop k), m5, s)
  | 0, _, _, _, _, _, h, _, _, _ => by omega
  | n + 1, k, c, b, s, hn, _, hk, hl, hc => by
    unfold g_spec_l05Sync.l3
    by_cases h : k < c.length
    · obtain ⟨h1, h2⟩ := hc _ (List.getElem_mem h)
      rw [drop_get h]
      simp (disch := omega) only [dec_t, cond_true, gd_true, Int.toNat_natCast, get_t, Option.bind_some, bind_id, nc1, wi_of]
      rw [sync_l3 N m1 m3 m5 n (k + 1) c _ s (by omega) (by omega) (by omega) hl (by simpa using hc)]
      rfl
    · simp (disch := omega) only [dec_t, dec_f, cond_false, gd_true, Int.toNat_natCast, bind_id, nc1, wi_of, List.drop_of_length_le, pSync]
def tornD (new old : List UInt8) (t : Int) : List UInt8 := new.take (min (max t 0) (new.length : Int)).toNat ++ old.drop (min (min (max t 0) (new.length : Int)) (old.length : Int)).toNat
theorem tornD_short {new old : List UInt8} {t : Int} (h1 : new.length ≤ 200) (h2 : old.length ≤ 200) : (tornD new old t).length ≤ 200 := by
  unfold tornD
  simp only [List.length_append, List.length_take, List.length_drop]
  omega
def pCrash (keep : List Bool) (t : Int) : Bool → Nat → List (Int × List UInt8) → List (List UInt8) → List (List UInt8)
  | _, _, [], b => b
  | tn, k, p :: c, b => if keep[k]? = some true then pCrash keep t tn (k + 1) c (b.set p.1.toNat p.2) else
    if tn = true then pCrash keep t tn (k + 1) c b else pCrash keep t true (k + 1) c (b.set p.1.toNat (tornD p.2 (b[p.1.toNat]?.getD []) t))
theorem pCrash_length (keep : List Bool) (t : Int) : ∀ (c : List (Int × List UInt8)) (tn : Bool) (k : Nat) (b : List (List UInt8)), (pCrash keep t tn k c b).length = b.length
  | [], _, _, _ => rfl
  | p :: c, tn, k, b => by
    rw [pCrash]
    split
    · rw [pCrash_length keep t c]; simp
    · split
      · rw [pCrash_length keep t c]
      · rw [pCrash_length keep t c]; simp
theorem set_short {b : List (List UInt8)} {i : Nat} {y : List UInt8} (h : ∀ x ∈ b, x.length ≤ 200) (hy : y.length ≤ 200) : ∀ x ∈ b.set i y, x.length ≤ 200 := fun x hx => by
  rcases List.mem_or_eq_of_mem_set hx with h' | rfl
  · exact h x h'
  · exact hy
theorem pCrash_short (keep : List Bool) (t : Int) : ∀ (c : List (Int × List UInt8)) (tn : Bool) (k : Nat) (b : List (List UInt8)), (∀ x ∈ b, x.length ≤ 200) → (∀ p ∈ c, p.2.length ≤ 200) → ∀ x ∈ pCrash keep t tn k c b, x.length ≤ 200
  | [], _, _, _, h, _ => h
  | p :: c, tn, k, b, h, hc => by
    have hc' : ∀ q ∈ c, q.2.length ≤ 200 := fun q hq => hc q (by simp [hq])
    have hp := hc p (by simp)
    rw [pCrash]
    split
    · exact pCrash_short keep t c _ _ _ (set_short h hp) hc'
    · split
      · exact pCrash_short keep t c _ _ _ h hc'
      · refine pCrash_short keep t c _ _ _ (set_short h (tornD_short hp ?_)) hc'
        cases e : b[p.1.toNat]? with
        | none => simp
        | some y => exact h y (List.mem_of_getElem? e)
theorem crash_l2 (N : Nat) (keep : List Bool) (t : Int) (hkl : keep.length ≤ 1000000) : ∀ (n k : Nat) (tn : Bool) (c : List (Int × List UInt8)) (b s : List (List UInt8)), c.length ≤ k + n - 1 → 0 < n → k ≤ c.length → c.length ≤ 1000000 → (∀ x ∈ b, x.length ≤ 200) → (∀ p ∈ c, 0 ≤ p.1 ∧ p.1 < (b.length : Int) ∧ p.2.length ≤ 200) →
    g_impl_Disk_crash__pbb.l2 N n keep t (c.length : Int) tn (k : Int) c b s = some (pCrash keep t tn k (c.drop k) b, c, s)
  | 0, _, _, _, _, _, _, h, _, _, _, _ => by omega
  | n + 1, k, tn, c, b, s, hn, _, hk, hl, hb, hc => by
    unfold g_impl_Disk_crash__pbb.l2
    by_cases h : k < c.length
    · obtain ⟨h1, h2, h3⟩ := hc _ (List.getElem_mem h)
      have hbk : (c[k].1.toNat) < b.length := by omega
      have h4 := hb _ (List.getElem_mem hbk)
      have ht := tornD_short (t := t) h3 h4
      have hlen : ((c[k].2.take (min (max t 0) (c[k].2.length : Int)).toNat).drop 0).length + ((b[c[k].1.toNat].take b[c[k].1.toNat].length).drop (min (min (max t 0) (c[k].2.length : Int)) (b[c[k].1.toNat].length : Int)).toNat).length ≤ 9223372036854775807 := by
        simp only [List.length_take, List.length_drop]; omega
      have hrec : ∀ (tn : Bool) (b' : List (List UInt8)), b'.length = b.length → (∀ x ∈ b', x.length ≤ 200) → g_impl_Disk_crash__pbb.l2 N n keep t (c.length : Int) tn ((k + 1 : Nat) : Int) c b' s = some (pCrash keep t tn (k + 1) (c.drop (k + 1)) b', c, s) := fun tn b' e1 e2 =>
        crash_l2 N keep t hkl n (k + 1) tn c b' s (by omega) (by omega) (by omega) hl e2 (by rw [e1]; exact hc)
      have hget : b[c[k].1.toNat]?.getD [] = b[c[k].1.toNat] := by rw [get_t hbk]; rfl
      have et : tornD c[k].2 b[c[k].1.toNat] t = c[k].2.take (min (max t 0) (c[k].2.length : Int)).toNat ++ b[c[k].1.toNat].drop (min (min (max t 0) (c[k].2.length : Int)) (b[c[k].1.toNat].length : Int)).toNat := rfl
      rw [drop_get h, pCrash, hget]
      by_cases hk2 : k < keep.length
      · rw [get_t hk2]
        cases hv : keep[k]
        · cases tn
          · simp (disch := omega) only [dec_t, cond_true, cond_false, gd_true, Bool.not_false, Bool.and_self, Int.toNat_natCast, get_t, Option.bind_some, bind_id, nc1, wi_of, List.length_take, List.length_drop, hv, List.drop_zero, List.take_length]
            rw [← et, hrec _ _ (by simp) (set_short hb ht)]
            simp
          · simp (disch := omega) only [dec_t, cond_true, cond_false, gd_true, Bool.not_true, Bool.and_self, Int.toNat_natCast, get_t, Option.bind_some, bind_id, nc1, wi_of, List.length_take, List.length_drop, hv]
            rw [hrec _ _ rfl hb]
            simp
        · simp (disch := omega) only [dec_t, cond_true, gd_true, Bool.and_self, Int.toNat_natCast, get_t, Option.bind_some, bind_id, nc1, wi_of, List.length_take, List.length_drop, hv]
          rw [hrec _ _ (by simp) (set_short hb h3)]
          simp
      · rw [show keep[k]? = none from List.getElem?_eq_none (by omega)]
        cases tn
        · simp (disch := omega) only [dec_t, dec_f, cond_true, cond_false, gd_true, Bool.not_false, Bool.and_self, Int.toNat_natCast, get_t, Option.bind_some, bind_id, nc1, wi_of, List.length_take, List.length_drop, List.drop_zero, List.take_length]
          rw [← et, hrec _ _ (by simp) (set_short hb ht)]
          simp
        · simp (disch := omega) only [dec_t, dec_f, cond_true, cond_false, gd_true, Bool.not_true, Bool.and_self, Int.toNat_natCast, get_t, Option.bind_some, bind_id, nc1, wi_of, List.length_take, List.length_drop]
          rw [hrec _ _ rfl hb]
          simp
    · simp (disch := omega) only [dec_t, dec_f, cond_false, gd_true, Bool.and_self, Int.toNat_natCast, bind_id, nc1, wi_of, List.length_take, List.length_drop, List.drop_of_length_le, pCrash]
end Go.Vm
/- Disks: an act. -/
set_option linter.unusedVariables false
set_option maxRecDepth 100000
namespace Go.Vm
theorem mmx (t : Int) (n : Nat) : max 0 (min t (n : Int)) = min (max t 0) (n : Int) := by omega
theorem crash_l5 (N : Nat) (keep : List Bool) (t : Int) (m4 m6 : List (List UInt8)) (m8 : List (Int × List UInt8)) (m9 : List (List UInt8)) (hkl : keep.length ≤ 1000000) : ∀ (n k : Nat) (tn : Bool) (c : List (Int × List UInt8)) (b : List (List UInt8)), c.length ≤ k + n - 1 → 0 < n → k ≤ c.length → c.length ≤ 1000000 → (∀ x ∈ b, x.length ≤ 200) → (∀ p ∈ c, 0 ≤ p.1 ∧ p.1 < (b.length : Int) ∧ p.2.length ≤ 200) →
    g_spec_l05Crash.l5 N n keep t (!tn) (k : Int) m4 c m6 b m8 m9 = some (pCrash keep t tn k (c.drop k) b, m8, m9)
  | 0, _, _, _, _, _, h, _, _, _, _ => by omega
  | n + 1, k, tn, c, b, hn, _, hk, hl, hb, hc => by
    unfold g_spec_l05Crash.l5
    by_cases h : k < c.length
    · obtain ⟨h1, h2, h3⟩ := hc _ (List.getElem_mem h)
      have hbk : (c[k].1.toNat) < b.length := by omega
      have h4 := hb _ (List.getElem_mem hbk)
      have ht := tornD_short (t := t) h3 h4
      have hlen : ((c[k].2.take (min (max t 0) (c[k].2.length : Int)).toNat).drop 0).length + ((b[c[k].1.toNat].take b[c[k].1.toNat].length).drop (min (min (max t 0) (c[k].2.length : Int)) (b[c[k].1.toNat].length : Int)).toNat).length ≤ 9223372036854775807 := by
        simp only [List.length_take, List.length_drop]; omega
      have hrec : ∀ (tn : Bool) (b' : List (List UInt8)), b'.length = b.length → (∀ x ∈ b', x.length ≤ 200) → g_spec_l05Crash.l5 N n keep t (!tn) ((k + 1 : Nat) : Int) m4 c m6 b' m8 m9 = some (pCrash keep t tn (k + 1) (c.drop (k + 1)) b', m8, m9) := fun tn b' e1 e2 =>
        crash_l5 N keep t m4 m6 m8 m9 hkl n (k + 1) tn c b' (by omega) (by omega) (by omega) hl e2 (by rw [e1]; exact hc)
      have hrt := hrec true
      have hrf := hrec false
      rw [Bool.not_true] at hrt
      rw [Bool.not_false] at hrf
      have hget : b[c[k].1.toNat]?.getD [] = b[c[k].1.toNat] := by rw [get_t hbk]; rfl
      have et : tornD c[k].2 b[c[k].1.toNat] t = c[k].2.take (min (max t 0) (c[k].2.length : Int)).toNat ++ b[c[k].1.toNat].drop (min (min (max t 0) (c[k].2.length : Int)) (b[c[k].1.toNat].length : Int)).toNat := rfl
      rw [drop_get h, pCrash, hget]
      by_cases hk2 : k < keep.length
      · rw [get_t hk2]
        cases hv : keep[k]
        · cases tn
          · simp (disch := omega) only [dec_t, cond_true, cond_false, gd_true, Bool.not_false, Bool.and_self, Int.toNat_natCast, get_t, Option.bind_some, bind_id, nc1, wi_of, List.length_take, List.length_drop, hv, mmx, List.drop_zero, List.take_length]
            rw [← et, hrt _ (by simp) (set_short hb ht)]
            simp
          · simp (disch := omega) only [dec_t, cond_true, cond_false, gd_true, Bool.not_true, Bool.and_self, Int.toNat_natCast, get_t, Option.bind_some, bind_id, nc1, wi_of, List.length_take, List.length_drop, hv]
            rw [hrt _ rfl hb]
            simp
        · cases tn
          · simp (disch := omega) only [dec_t, cond_true, gd_true, Bool.not_false, Bool.and_self, Int.toNat_natCast, get_t, Option.bind_some, bind_id, nc1, wi_of, List.length_take, List.length_drop, hv]
            rw [hrf _ (by simp) (set_short hb h3)]
            simp
          · simp (disch := omega) only [dec_t, cond_true, cond_false, gd_true, Bool.not_true, Bool.and_self, Int.toNat_natCast, get_t, Option.bind_some, bind_id, nc1, wi_of, List.length_take, List.length_drop, hv]
            rw [hrt _ (by simp) (set_short hb h3)]
            simp
      · rw [show keep[k]? = none from List.getElem?_eq_none (by omega)]
        cases tn
        · simp (disch := omega) only [dec_t, dec_f, cond_true, cond_false, gd_true, Bool.not_false, Bool.and_self, Int.toNat_natCast, get_t, Option.bind_some, bind_id, nc1, wi_of, List.length_take, List.length_drop, mmx, List.drop_zero, List.take_length]
          rw [← et, hrt _ (by simp) (set_short hb ht)]
          simp
        · simp (disch := omega) only [dec_t, dec_f, cond_true, cond_false, gd_true, Bool.not_true, Bool.and_self, Int.toNat_natCast, get_t, Option.bind_some, bind_id, nc1, wi_of, List.length_take, List.length_drop]
          rw [hrt _ rfl hb]
          simp
    · simp (disch := omega) only [dec_t, dec_f, cond_false, gd_true, Bool.and_self, Int.toNat_natCast, bind_id, nc1, wi_of, List.length_take, List.length_drop, List.drop_of_length_le, pCrash]
/-- What an act does. -/
def dStep (d : DiskT) (a : ActT) : DiskT × Int :=
  if a.1 = 1 ∨ a.1 = 6 then
    if 0 ≤ a.2.1 ∧ a.2.1 ≤ (d.1.length : Int) - 1 then
    if 200 < a.2.2.1.length then (d, 2) else
    if a.1 = 6 then ((d.1.set a.2.1.toNat a.2.2.1, d.2.1, d.2.2), 0) else
    if d.2.1.length = 4096 then (d, 7) else ((d.1, d.2.1 ++ [(a.2.1, a.2.2.1)], d.2.2), 0)
    else (d, 4)
  else if a.1 = 2 then ((pSync d.1 d.2.1, [], d.2.2), 0)
  else if a.1 = 3 then ((pCrash a.2.2.2.1 a.2.2.2.2 false 0 d.2.1 d.1, [], d.2.2), 0)
  else if a.1 = 4 then ((d.1, d.2.1, d.1), 0)
  else if a.1 = 5 then (if d.2.2.length = 0 then (d, 5) else ((d.2.2, [], d.2.2), 0))
  else (d, 3)
theorem dStep_ok {d : DiskT} (h : OkD d) (a : ActT) : OkD (dStep d a).1 := by
  unfold dStep
  split
  · split
    · rename_i hat
      split
      · exact h
      · rename_i hl
        split
        · exact ⟨by simpa using h.b1, by simpa using h.b2, set_short h.b3 (by omega), h.c1, by simpa using h.c2, by simpa using h.s1, h.s2⟩
        · split
          · exact h
          · refine ⟨h.b1, h.b2, h.b3, by have := h.c1; simp; omega, fun p hp => ?_, h.s1, h.s2⟩
            rcases List.mem_append.1 hp with hp | hp
            · exact h.c2 p hp
            · simp only [List.mem_singleton] at hp
              subst hp
              exact ⟨by omega, by dsimp only; omega, by dsimp only; omega⟩
    · exact h
  · split
    · exact ⟨by rw [pSync_length]; exact h.b1, by rw [pSync_length]; exact h.b2, pSync_short _ _ h.b3 fun p hp => (h.c2 p hp).2.2, by simp, by simp, by rw [pSync_length]; exact h.s1, h.s2⟩
    · split
      · exact ⟨by rw [pCrash_length]; exact h.b1, by rw [pCrash_length]; exact h.b2, pCrash_short _ _ _ _ _ _ h.b3 fun p hp => (h.c2 p hp).2.2, by simp, by simp, by rw [pCrash_length]; exact h.s1, h.s2⟩
      · split
        · exact ⟨h.b1, h.b2, h.b3, h.c1, h.c2, .inr rfl, h.b3⟩
        · split
          · split
            · exact h
            · rename_i hs
              have e : d.2.2.length = d.1.length := by
                rcases h.s1 with e | e
                · rw [e] at hs; exact absurd rfl hs
                · exact e
              exact ⟨by rw [e]; exact h.b1, by rw [e]; exact h.b2, h.s2, by simp, by simp, .inr rfl, h.s2⟩
          · exact h
theorem placeCode_eq (N : Nat) (d : DiskT) (a : ActT) (h : d.1.length ≤ 1000000) (ha : a.2.2.1.length ≤ 1000000) : g_impl_Disk_placeCode N d a = some (if 0 ≤ a.2.1 ∧ a.2.1 ≤ (d.1.length : Int) - 1 then if 200 < a.2.2.1.length then 2 else 0 else 4) := by
  unfold g_impl_Disk_placeCode g_impl_Disk_isAt g_impl_isBlock
  simp (disch := omega) only [dWithin, Option.bind_some, bind_id, wi_of]
  by_cases h1 : 0 ≤ a.2.1
  · by_cases h2 : a.2.1 ≤ (d.1.length : Int) - 1
    · by_cases h3 : 200 < a.2.2.1.length
      · simp (disch := omega) only [dec_f, decide_true, cond_true, cond_false, Bool.not_true, Bool.not_false, Bool.and_self, if_pos, h1, h2, h3, and_self]
        simp
      · simp (disch := omega) only [dec_t, decide_true, cond_false, Bool.not_true, Bool.and_self, h1, h2, h3, and_self]
        simp
    · simp (disch := omega) only [decide_true, decide_false, cond_true, Bool.not_false, Bool.true_and, h1, h2]
      simp
  · simp (disch := omega) only [dec_t, decide_false, cond_true, Bool.not_false, Bool.and_true, h1]
    simp
theorem act_eq {N : Nat} (hN : 18446744073709551616 ≤ N) {d : DiskT} (h : OkD d) (a : ActT) (ha : a.2.2.1.length ≤ 1000000) (hk : a.2.2.2.1.length ≤ 1000000) : g_impl_Disk_act__pb N d a = some (dStep d a) := by
  obtain ⟨b, c, s⟩ := d
  obtain ⟨k, at_, dt, kp, t⟩ := a
  have h1 := h.b1; have h2 := h.b2; have h3 := h.c1; have h4 := h.s3
  dsimp only at h1 h2 h3 h4 ha hk
  have eS : g_impl_Disk_sync__p N (b, c, s) = some (pSync b c, [], s) := by
    unfold g_impl_Disk_sync__p
    have := sync_l1 N N 0 c b s (by omega) (by omega) (by omega) (by omega) fun p hp => ⟨(h.c2 p hp).1, (h.c2 p hp).2.1⟩
    simp only [Int.natCast_zero, List.drop_zero] at this
    simp only [this, Option.bind_some]
  have eC : g_impl_Disk_crash__pbb N (b, c, s) kp t = some (pCrash kp t false 0 c b, [], s) := by
    unfold g_impl_Disk_crash__pbb
    have := crash_l2 N kp t hk N 0 false c b s (by omega) (by omega) (by omega) (by omega) h.b3 h.c2
    simp only [Int.natCast_zero, List.drop_zero] at this
    simp only [this, Option.bind_some]
  unfold g_impl_Disk_act__pb dStep
  dsimp only
  simp only [placeCode_eq N (b, c, s) (k, at_, dt, kp, t) (by dsimp only; omega) (by dsimp only; omega), eS, eC, cloneS N b (by omega), cloneS N s (by omega), Option.bind_some]
  by_cases e1 : k = 1
  · subst e1
    rw [if_pos (show (1 : Int) = 1 ∨ (1 : Int) = 6 from .inl rfl), if_neg (show ¬ (1 : Int) = 6 by omega)]
    by_cases p1 : 0 ≤ at_ ∧ at_ ≤ (b.length : Int) - 1
    · by_cases p2 : 200 < dt.length
      · simp (disch := omega) only [if_pos p1, if_pos p2, dec_t, cond_true, cond_false, gd_true, room_t, beq_ti, beq_fi, bne_ti, List.length_cons, List.length_nil]
      · by_cases p3 : c.length = 4096
        · simp (disch := omega) only [if_pos p1, if_neg p2, if_pos p3, dec_t, cond_true, cond_false, gd_true, room_t, beq_ti, beq_fi, bne_fi, List.length_cons, List.length_nil]
        · simp (disch := omega) only [if_pos p1, if_neg p2, if_neg p3, dec_t, cond_true, cond_false, gd_true, room_t, beq_ti, beq_fi, bne_fi, List.length_cons, List.length_nil]
    · simp (disch := omega) only [if_neg p1, cond_true, cond_false, gd_true, room_t, beq_ti, beq_fi, bne_ti, List.length_cons, List.length_nil]
  · by_cases e6 : k = 6
    · subst e6
      rw [if_pos (show (6 : Int) = 1 ∨ (6 : Int) = 6 from .inr rfl), if_pos (show (6 : Int) = 6 from rfl)]
      by_cases p1 : 0 ≤ at_ ∧ at_ ≤ (b.length : Int) - 1
      · have hb : at_.toNat < b.length := by omega
        by_cases p2 : 200 < dt.length
        · simp (disch := omega) only [if_pos p1, if_pos p2, dec_t, cond_true, cond_false, gd_true, room_t, beq_ti, beq_fi, bne_ti, List.length_cons, List.length_nil]
        · simp (disch := omega) only [if_pos p1, if_neg p2, dec_t, cond_true, cond_false, gd_true, get_t, Option.bind_some, room_t, beq_ti, beq_fi, bne_fi, List.length_cons, List.length_nil]
      · simp (disch := omega) only [if_neg p1, cond_true, cond_false, gd_true, room_t, beq_ti, beq_fi, bne_ti, List.length_cons, List.length_nil]
    · rw [if_neg (show ¬ (k = 1 ∨ k = 6) by omega)]
      simp (disch := omega) only [cond_false, gd_true, room_t, beq_fi, List.length_cons, List.length_nil]
      by_cases e2 : k = 2
      · simp (disch := omega) only [if_pos e2, cond_true, cond_false, beq_ti, beq_fi]
      · simp (disch := omega) only [if_neg e2, cond_false, beq_fi]
        by_cases e3 : k = 3
        · simp (disch := omega) only [if_pos e3, cond_true, cond_false, beq_ti, beq_fi]
        · simp (disch := omega) only [if_neg e3, cond_false, beq_fi]
          by_cases e4 : k = 4
          · simp (disch := omega) only [if_pos e4, cond_true, cond_false, beq_ti, beq_fi]
          · simp (disch := omega) only [if_neg e4, cond_false, beq_fi]
            by_cases e5 : k = 5
            · simp (disch := omega) only [if_pos e5, cond_true, beq_ti]
              by_cases p : s.length = 0
              · simp (disch := omega) only [if_pos p, cond_true, beq_ti]
              · simp (disch := omega) only [if_neg p, cond_false, beq_fi]
            · simp (disch := omega) only [if_neg e5, cond_false, beq_fi]
theorem step_eq {N : Nat} (hN : 18446744073709551616 ≤ N) {d : DiskT} (h : OkD d) (a : ActT) (ha : a.2.2.1.length ≤ 1000000) (hk : a.2.2.2.1.length ≤ 1000000) : g_spec_l05Step__ob N d a = some (dStep d a) := by
  obtain ⟨b, c, s⟩ := d
  obtain ⟨k, at_, dt, kp, t⟩ := a
  have h1 := h.b1; have h2 := h.b2; have h3 := h.c1; have h4 := h.s3
  dsimp only at h1 h2 h3 h4 ha hk
  have eO := sOwn_eq N b c s (by omega) (by omega) (by omega)
  have eS : g_spec_l05Sync N (b, c, s) = some (pSync b c, [], s) := by
    unfold g_spec_l05Sync
    have := sync_l3 N b s c N 0 c b s (by omega) (by omega) (by omega) (by omega) fun p hp => ⟨(h.c2 p hp).1, (h.c2 p hp).2.1⟩
    simp only [Int.natCast_zero, List.drop_zero] at this
    simp only [eO, this, Option.bind_some]
  have eC : g_spec_l05Crash N (b, c, s) kp t = some (pCrash kp t false 0 c b, [], s) := by
    unfold g_spec_l05Crash
    have := crash_l5 N kp t b s [] s hk N 0 false c b (by omega) (by omega) (by omega) (by omega) h.b3 h.c2
    simp only [Int.natCast_zero, List.drop_zero, Bool.not_false] at this
    simp only [eO, this, Option.bind_some]
  unfold g_spec_l05Step__ob dStep
  dsimp only
  simp only [dIn, eO, eS, eC, Option.bind_some]
  by_cases e1 : k = 1
  · subst e1
    rw [if_pos (show (1 : Int) = 1 ∨ (1 : Int) = 6 from .inl rfl), if_neg (show ¬ (1 : Int) = 6 by omega)]
    by_cases p1 : 0 ≤ at_ ∧ at_ ≤ (b.length : Int) - 1
    · by_cases p2 : 200 < dt.length
      · simp (disch := omega) only [if_pos p1, if_pos p2, dec_t, cond_true, cond_false, gd_true, Bool.not_true, Bool.and_self, wi_of, room_t, beq_ti, beq_fi, List.length_cons, List.length_nil]
      · by_cases p3 : c.length = 4096
        · simp (disch := omega) only [if_pos p1, if_neg p2, if_pos p3, dec_t, dec_f, cond_true, cond_false, gd_true, Bool.not_true, Bool.and_self, wi_of, room_t, beq_ti, beq_fi, List.length_cons, List.length_nil]
        · simp (disch := omega) only [if_pos p1, if_neg p2, if_neg p3, dec_t, dec_f, cond_true, cond_false, gd_true, Bool.not_true, Bool.and_self, wi_of, room_t, beq_ti, beq_fi, List.length_cons, List.length_nil]
    · have e : (decide (0 ≤ at_) && decide (at_ ≤ (b.length : Int) - 1)) = false := by
        by_cases q : 0 ≤ at_
        · rw [dec_f (p := at_ ≤ (b.length : Int) - 1) (by omega), Bool.and_false]
        · rw [dec_f q, Bool.false_and]
      simp (disch := omega) only [if_neg p1, e, cond_true, cond_false, gd_true, Bool.not_false, wi_of, room_t, beq_ti, beq_fi, List.length_cons, List.length_nil]
  · by_cases e6 : k = 6
    · subst e6
      rw [if_pos (show (6 : Int) = 1 ∨ (6 : Int) = 6 from .inr rfl), if_pos (show (6 : Int) = 6 from rfl)]
      by_cases p1 : 0 ≤ at_ ∧ at_ ≤ (b.length : Int) - 1
      · have hb : at_.toNat < b.length := by omega
        by_cases p2 : 200 < dt.length
        · simp (disch := omega) only [if_pos p1, if_pos p2, dec_t, cond_true, cond_false, gd_true, Bool.not_true, Bool.and_self, wi_of, room_t, beq_ti, beq_fi, List.length_cons, List.length_nil]
        · simp (disch := omega) only [if_pos p1, if_neg p2, dec_t, dec_f, cond_true, cond_false, gd_true, Bool.not_true, Bool.and_self, get_t, Option.bind_some, wi_of, room_t, beq_ti, beq_fi, List.length_cons, List.length_nil]
      · have e : (decide (0 ≤ at_) && decide (at_ ≤ (b.length : Int) - 1)) = false := by
          by_cases q : 0 ≤ at_
          · rw [dec_f (p := at_ ≤ (b.length : Int) - 1) (by omega), Bool.and_false]
          · rw [dec_f q, Bool.false_and]
        simp (disch := omega) only [if_neg p1, e, cond_true, cond_false, gd_true, Bool.not_false, wi_of, room_t, beq_ti, beq_fi, List.length_cons, List.length_nil]
    · rw [if_neg (show ¬ (k = 1 ∨ k = 6) by omega)]
      simp (disch := omega) only [cond_false, gd_true, wi_of, room_t, beq_fi, List.length_cons, List.length_nil]
      by_cases e2 : k = 2
      · simp (disch := omega) only [if_pos e2, cond_true, cond_false, beq_ti, beq_fi]
      · simp (disch := omega) only [if_neg e2, cond_false, beq_fi]
        by_cases e3 : k = 3
        · simp (disch := omega) only [if_pos e3, cond_true, cond_false, beq_ti, beq_fi]
        · simp (disch := omega) only [if_neg e3, cond_false, beq_fi]
          by_cases e4 : k = 4
          · simp (disch := omega) only [if_pos e4, cond_true, cond_false, beq_ti, beq_fi, List.nil_append]
          · simp (disch := omega) only [if_neg e4, cond_false, beq_fi]
            by_cases e5 : k = 5
            · simp (disch := omega) only [if_pos e5, cond_true, beq_ti]
              by_cases p : s.length = 0
              · simp (disch := omega) only [if_pos p, cond_true, beq_ti]
              · simp (disch := omega) only [if_neg p, cond_false, beq_fi, List.nil_append]
            · simp (disch := omega) only [if_neg e5, cond_false, beq_fi]
end Go.Vm
/- Disks: runs, reading, comparing. -/
set_option linter.unusedVariables false
set_option maxRecDepth 100000
namespace Go.Vm
def GoodA (a : ActT) : Prop := a.2.2.1.length ≤ 65536 ∧ a.2.2.2.1.length ≤ 4096
def dRun : DiskT → List ActT → DiskT × List Int
  | d, [] => (d, [])
  | d, a :: l => ((dRun (dStep d a).1 l).1, (dStep d a).2 :: (dRun (dStep d a).1 l).2)
theorem dRun_ok : ∀ (l : List ActT) (d : DiskT), OkD d → OkD (dRun d l).1
  | [], _, h => h
  | a :: l, d, h => dRun_ok l _ (dStep_ok h a)
theorem dStep_len (d : DiskT) (a : ActT) : (dStep d a).1.1.length = d.1.length ∨ (dStep d a).1.1.length = d.2.2.length := by
  unfold dStep
  split
  · split
    · split
      · exact .inl rfl
      · split
        · left; simp
        · split <;> exact .inl rfl
    · exact .inl rfl
  · split
    · left; simp [pSync_length]
    · split
      · left; simp [pCrash_length]
      · split
        · exact .inl rfl
        · split
          · split
            · exact .inl rfl
            · exact .inr rfl
          · exact .inl rfl
theorem dStep_blocks {d : DiskT} (h : OkD d) (a : ActT) : (dStep d a).1.1.length = d.1.length := by
  have hk := dStep_ok h a
  rcases dStep_len d a with e | e
  · exact e
  · rcases h.s1 with e' | e'
    · rw [e'] at e; have := hk.b1; rw [e] at this; simp at this
    · rw [e, e']
theorem dRun_blocks : ∀ (l : List ActT) (d : DiskT), OkD d → (dRun d l).1.1.length = d.1.length
  | [], _, h => rfl
  | a :: l, d, h => (dRun_blocks l _ (dStep_ok h a)).trans (dStep_blocks h a)
theorem dStep_cache (d : DiskT) (a : ActT) : (dStep d a).1.2.1.length ≤ d.2.1.length + 1 := by
  unfold dStep
  split
  · split
    · split
      · simp
      · split
        · simp
        · split <;> simp
    · simp
  · split
    · simp
    · split
      · simp
      · split
        · simp
        · split
          · split <;> simp
          · simp
theorem dRun_cache : ∀ (l : List ActT) (d : DiskT), (dRun d l).1.2.1.length ≤ d.2.1.length + l.length
  | [], _ => by simp [dRun]
  | a :: l, d => by
    have h1 := dRun_cache l (dStep d a).1
    have h2 := dStep_cache d a
    simp only [dRun, List.length_cons]
    omega
theorem dRun_append : ∀ (l m : List ActT) (d : DiskT), (dRun d (l ++ m)).1 = (dRun (dRun d l).1 m).1
  | [], _, _ => rfl
  | a :: l, m, d => dRun_append l m _
theorem iRun_l12 {N : Nat} (hN : 18446744073709551616 ≤ N) (l : List ActT) (hl : l.length ≤ 1000000) (hg : ∀ a ∈ l, GoodA a) : ∀ (n k : Nat) (b : List (List UInt8)) (c : List (Int × List UInt8)) (s : List (List UInt8)) (cs : List Int), l.length ≤ k + n - 1 → 0 < n → k ≤ l.length → OkD (b, c, s) → cs.length = k →
    g_impl_DiskRun.l12 N n l (l.length : Int) (k : Int) b c s cs = some ((dRun (b, c, s) (l.drop k)).1.1, (dRun (b, c, s) (l.drop k)).1.2.1, (dRun (b, c, s) (l.drop k)).1.2.2, cs ++ (dRun (b, c, s) (l.drop k)).2)
  | 0, _, _, _, _, _, _, h, _, _, _ => by omega
  | n + 1, k, b, c, s, cs, hn, _, hk, hd, hcs => by
    unfold g_impl_DiskRun.l12
    by_cases h : k < l.length
    · obtain ⟨g1, g2⟩ := hg _ (List.getElem_mem h)
      have e := act_eq hN hd l[k] (by omega) (by omega)
      have hd' := dStep_ok hd l[k]
      rw [drop_get h]
      simp (disch := omega) only [dec_t, cond_true, gd_true, Int.toNat_natCast, get_t, Option.bind_some, bind_id, nc1, wi_of, room_t, List.length_cons, List.length_nil, e]
      rw [iRun_l12 hN l hl hg n (k + 1) _ _ _ _ (by omega) (by omega) (by omega) hd' (by simp [hcs])]
      simp only [dRun, List.append_assoc, List.singleton_append]
    · simp (disch := omega) only [dec_t, dec_f, cond_false, gd_true, Int.toNat_natCast, bind_id, nc1, wi_of, room_t, List.length_cons, List.length_nil, List.drop_of_length_le, dRun, List.append_nil]
theorem sRun_l10 {N : Nat} (hN : 18446744073709551616 ≤ N) (l : List ActT) (hl : l.length ≤ 1000000) (hg : ∀ a ∈ l, GoodA a) : ∀ (n k : Nat) (b : List (List UInt8)) (c : List (Int × List UInt8)) (s : List (List UInt8)) (cs : List Int), l.length ≤ k + n - 1 → 0 < n → k ≤ l.length → OkD (b, c, s) → cs.length = k →
    g_spec_DiskRun.l10 N n l (k : Int) cs b c s = some (.inr (cs ++ (dRun (b, c, s) (l.drop k)).2, (dRun (b, c, s) (l.drop k)).1.1, (dRun (b, c, s) (l.drop k)).1.2.1, (dRun (b, c, s) (l.drop k)).1.2.2))
  | 0, _, _, _, _, _, _, h, _, _, _ => by omega
  | n + 1, k, b, c, s, cs, hn, _, hk, hd, hcs => by
    unfold g_spec_DiskRun.l10
    by_cases h : k < l.length
    · obtain ⟨g1, g2⟩ := hg _ (List.getElem_mem h)
      have e := step_eq hN hd l[k] (by omega) (by omega)
      have hd' := dStep_ok hd l[k]
      rw [drop_get h]
      simp (disch := omega) only [dec_t, dec_f, cond_true, cond_false, gd_true, Int.toNat_natCast, get_t, Option.bind_some, bind_id, nc1, wi_of, room_t, List.length_cons, List.length_nil, e]
      rw [sRun_l10 hN l hl hg n (k + 1) _ _ _ _ (by omega) (by omega) (by omega) hd' (by simp [hcs])]
      simp only [dRun, List.append_assoc, List.singleton_append]
    · simp (disch := omega) only [dec_t, dec_f, cond_false, gd_true, Int.toNat_natCast, bind_id, nc1, wi_of, room_t, List.length_cons, List.length_nil, List.drop_of_length_le, dRun, List.append_nil]
def newD (n : Nat) : DiskT := (List.replicate n [], [], [])
theorem newD_ok {n : Nat} (h : 1 ≤ n) (h' : n ≤ 64) : OkD (newD n) := ⟨by simpa [newD] using h, by simpa [newD] using h', by simp [newD], by simp [newD], by simp [newD], .inl rfl, by simp [newD]⟩
theorem isLongS_eq {N : Nat} (hN : 18446744073709551616 ≤ N) (t : List UInt8) : g_impl_isLong_string N [t] = some (decide (65536 < t.length)) := by
  have key : ∀ n c0 c1 m, g_slices_IndexFunc_Sstring_string__b_impl_isLong_string_1_.l2 N n c0 c1 m = idxL (g_impl_isLong_string_1 N) n c0 c1 m := by
    intro n c0 c1
    induction n with
    | zero => intro m; rfl
    | succ n ih => intro m; simp only [g_slices_IndexFunc_Sstring_string__b_impl_isLong_string_1_.l2, idxL, ih]
  unfold g_impl_isLong_string g_slices_ContainsFunc_Sstring_string__b_impl_isLong_string_1_ g_slices_IndexFunc_Sstring_string__b_impl_isLong_string_1_
  rw [key, contains_eq (p := g_impl_isLong_string_1 N) (q := fun r => decide ((r.length : Int) > 65536)) [t] (fun x _ => rfl) (by simp; omega) (by simp), bind_id]
  simp only [List.any_cons, List.any_nil, Bool.or_false, Option.some.injEq]
  by_cases h : 65536 < t.length
  · rw [dec_t h, dec_t (by omega)]
  · rw [dec_f h, dec_f (by omega)]
theorem allGood {N : Nat} (hN : 18446744073709551616 ≤ N) (l : List ActT) (hl : l.length ≤ 1000000) (hg : ∀ a ∈ l, GoodA a) : g_impl_areAll_impl_DiskAct__b_impl_DiskRun_1_ N l = some true := by
  have hp : ∀ a ∈ l, g_impl_areAll_impl_DiskAct_1__bP_impl_DiskRun_1_ N a = some ((fun _ => false) a) := fun a ha => by
    obtain ⟨g1, g2⟩ := hg a ha
    unfold g_impl_areAll_impl_DiskAct_1__bP_impl_DiskRun_1_ g_impl_DiskRun_1 g_impl_isLongList_bool
    simp (disch := omega) only [isLongS_eq hN, dec_f, cond_true, Bool.not_true, Bool.not_false, Option.bind_some]
  have key : ∀ n c0 c1 m, g_slices_IndexFunc_Simpl_DiskAct_impl_DiskAct__b_impl_areAll_impl_DiskAct_1P_impl_DiskRun_1__.l2 N n c0 c1 m = idxL (g_impl_areAll_impl_DiskAct_1__bP_impl_DiskRun_1_ N) n c0 c1 m := by
    intro n c0 c1
    induction n with
    | zero => intro m; rfl
    | succ n ih => intro m; simp only [g_slices_IndexFunc_Simpl_DiskAct_impl_DiskAct__b_impl_areAll_impl_DiskAct_1P_impl_DiskRun_1__.l2, idxL, ih]
  unfold g_impl_areAll_impl_DiskAct__b_impl_DiskRun_1_ g_slices_ContainsFunc_Simpl_DiskAct_impl_DiskAct__b_impl_areAll_impl_DiskAct_1P_impl_DiskRun_1__ g_slices_IndexFunc_Simpl_DiskAct_impl_DiskAct__b_impl_areAll_impl_DiskAct_1P_impl_DiskRun_1__
  rw [key, contains_eq (p := g_impl_areAll_impl_DiskAct_1__bP_impl_DiskRun_1_ N) (q := fun _ => false) l hp (by omega) (by omega)]
  simp
theorem iRun_eq {N : Nat} (hN : 18446744073709551616 ≤ N) (l : List ActT) (hl : l.length ≤ 120) (hg : ∀ a ∈ l, GoodA a) : g_impl_DiskRun N 4 l = some ((dRun (newD 4) l).1, (dRun (newD 4) l).2, 0) := by
  have h0 := newD_ok (n := 4) (by omega) (by omega)
  have hd := dRun_ok l _ h0
  have e := iRun_l12 hN l (by omega) hg N 0 (List.replicate 4 []) [] [] [] (by omega) (by omega) (by omega) h0 rfl
  simp only [Int.natCast_zero, List.drop_zero, List.nil_append] at e
  have h1 := hd.b2; have h2 := hd.c1; have h3 := hd.s3
  unfold g_impl_DiskRun g_impl_isLongList_impl_DiskAct g_impl_newDisk
  simp (disch := omega) only [dWithin, allGood hN l (by omega) hg, dec_t, dec_f, cond_false, gd_true, Bool.not_true, Bool.and_self, Option.bind_some, room_t]
  simp only [show (4 : Int).toNat = 4 from rfl, e, Option.bind_some]
  rw [show ((List.replicate 4 [] : List (List UInt8)), ([] : List (Int × List UInt8)), ([] : List (List UInt8))) = newD 4 from rfl]
  rw [own_eq N _ _ _ (by omega) (by omega) (by omega)]
  rfl
theorem sRun_eq {N : Nat} (hN : 18446744073709551616 ≤ N) (l : List ActT) (hl : l.length ≤ 120) (hg : ∀ a ∈ l, GoodA a) : g_spec_DiskRun N 4 l = some ((dRun (newD 4) l).1, (dRun (newD 4) l).2, 0) := by
  have h0 := newD_ok (n := 4) (by omega) (by omega)
  have hd := dRun_ok l _ h0
  have e := sRun_l10 hN l (by omega) hg N 0 (List.replicate 4 []) [] [] [] (by omega) (by omega) (by omega) h0 rfl
  simp only [Int.natCast_zero, List.drop_zero, List.nil_append] at e
  have h1 := hd.b2; have h2 := hd.c1; have h3 := hd.s3
  unfold g_spec_DiskRun g_spec_NewDisk
  simp (disch := omega) only [dIn, dec_t, dec_f, cond_false, gd_true, Bool.not_true, Bool.and_self, Option.bind_some, room_t, bne_fi]
  simp only [show (4 : Int).toNat = 4 from rfl, e, Option.bind_some, alt_inr]
  rw [show ((List.replicate 4 [] : List (List UInt8)), ([] : List (Int × List UInt8)), ([] : List (List UInt8))) = newD 4 from rfl]
  rw [sOwn_eq N _ _ _ (by omega) (by omega) (by omega)]
  rfl
end Go.Vm
/- Disks: which is right, what is read, which read the same. -/
set_option linter.unusedVariables false
set_option maxRecDepth 100000
namespace Go.Vm
theorem allBlocks {N : Nat} (hN : 18446744073709551616 ≤ N) (l : List (List UInt8)) (hl : l.length ≤ 1000000) (hg : ∀ a ∈ l, a.length ≤ 200) : g_impl_areAll_string__b_impl_isBlock_ N l = some true := by
  have hp : ∀ a ∈ l, g_impl_areAll_string_1__bP_impl_isBlock_ N a = some ((fun _ => false) a) := fun a ha => by
    have g1 := hg a ha
    unfold g_impl_areAll_string_1__bP_impl_isBlock_ g_impl_isBlock
    simp (disch := omega) only [dec_t, Bool.not_true, Option.bind_some]
  have key : ∀ n c0 c1 m, g_slices_IndexFunc_Sstring_string__b_impl_areAll_string_1P_impl_isBlock__.l2 N n c0 c1 m = idxL (g_impl_areAll_string_1__bP_impl_isBlock_ N) n c0 c1 m := by
    intro n c0 c1
    induction n with
    | zero => intro m; rfl
    | succ n ih => intro m; simp only [g_slices_IndexFunc_Sstring_string__b_impl_areAll_string_1P_impl_isBlock__.l2, idxL, ih]
  unfold g_impl_areAll_string__b_impl_isBlock_ g_slices_ContainsFunc_Sstring_string__b_impl_areAll_string_1P_impl_isBlock__ g_slices_IndexFunc_Sstring_string__b_impl_areAll_string_1P_impl_isBlock__
  rw [key, contains_eq (p := g_impl_areAll_string_1__bP_impl_isBlock_ N) (q := fun _ => false) l hp (by omega) (by omega)]
  simp
theorem pend_l2 (N : Nat) (d : DiskT) (hb : d.1.length ≤ 1000000) : ∀ (n k : Nat) (c : List (Int × List UInt8)), c.length ≤ k + n - 1 → 0 < n → k ≤ c.length → c.length ≤ 1000000 → (∀ p ∈ c, 0 ≤ p.1 ∧ p.1 < (d.1.length : Int) ∧ p.2.length ≤ 200) →
    g_slices_IndexFunc_Simpl_Pending_impl_Pending__b_impl_areAll_impl_Pending_1P_impl_DiskOK_1q__.l2 N n c (c.length : Int) d (k : Int) = some (.inr d)
  | 0, _, _, _, h, _, _, _ => by omega
  | n + 1, k, c, hn, _, hk, hl, hc => by
    unfold g_slices_IndexFunc_Simpl_Pending_impl_Pending__b_impl_areAll_impl_Pending_1P_impl_DiskOK_1q__.l2
    by_cases h : k < c.length
    · obtain ⟨h1, h2, h3⟩ := hc _ (List.getElem_mem h)
      unfold g_impl_areAll_impl_Pending_1__bP_impl_DiskOK_1q_ g_impl_DiskOK_1__bq g_impl_Disk_isAt g_impl_isBlock
      simp (disch := omega) only [dec_t, cond_true, cond_false, gd_true, Bool.not_true, Bool.and_self, Int.toNat_natCast, get_t, Option.bind_some, bind_id, nc1, wi_of, dWithin]
      exact pend_l2 N d hb n (k + 1) c (by omega) (by omega) (by omega) hl hc
    · simp (disch := omega) only [dec_t, dec_f, cond_false, gd_true, Int.toNat_natCast, bind_id, nc1, wi_of]
theorem diskOK_eq {N : Nat} (hN : 18446744073709551616 ≤ N) {d : DiskT} (h : OkD d) : g_impl_DiskOK N d = some true := by
  have h1 := h.b1; have h2 := h.b2; have h3 := h.c1; have h4 := h.s3
  have e := pend_l2 N d (by omega) N 0 d.2.1 (by omega) (by omega) (by omega) (by omega) h.c2
  simp only [Int.natCast_zero] at e
  unfold g_impl_DiskOK g_impl_isLongList_impl_Pending g_impl_areAll_impl_Pending__b_impl_DiskOK_1q_ g_slices_ContainsFunc_Simpl_Pending_impl_Pending__b_impl_areAll_impl_Pending_1P_impl_DiskOK_1q__ g_slices_IndexFunc_Simpl_Pending_impl_Pending__b_impl_areAll_impl_Pending_1P_impl_DiskOK_1q__
  simp (disch := omega) only [dWithin, allBlocks hN d.1 (by omega) h.b3, allBlocks hN d.2.2 (by omega) h.s2, e, dec_t, dec_f, cond_true, alt_inr, Bool.not_false, Bool.and_self, Option.bind_some, bind_id]
  rcases h.s1 with q | q
  · have q' : d.2.2.length = 0 := by rw [q]; rfl
    simp (disch := omega) only [cond_true, cond_false, beq_ti, beq_fi]
  · simp (disch := omega) only [cond_true, cond_false, beq_ti, beq_fi]
/-- What was written last, of the first k writes. -/
def rdF (c : List (Int × List UInt8)) (at_ : Int) : Nat → Option (List UInt8)
  | 0 => none
  | k + 1 => match c[k]? with
    | some p => if p.1 = at_ then some p.2 else rdF c at_ k
    | none => rdF c at_ k
def rdD (d : DiskT) (at_ : Int) : List UInt8 := match rdF d.2.1 at_ d.2.1.length with | some v => v | none => d.1[at_.toNat]?.getD []
theorem read_g2 (N : Nat) (xs : List (Int × List UInt8)) (m0 : List (List UInt8)) (m1 : List (Int × List UInt8)) (m2 : List (List UInt8)) (at_ : Int) (m4 : List UInt8) : ∀ k, k ≤ xs.length →
    g_impl_Disk_read.g2 N (backsF xs k) m0 m1 m2 at_ m4 = some (match rdF xs at_ k with | some v => .inr v | none => .inl (m0, m1, m2, at_, m4))
  | 0, _ => rfl
  | k + 1, hk => by
    have h : k < xs.length := by omega
    have e : backsF xs (k + 1) = ((k : Int), xs[k]) :: backsF xs k := by simp [backsF, h]
    rw [e, rdF, get_t h]
    simp only [g_impl_Disk_read.g2, bind_id]
    by_cases q : xs[k].1 = at_
    · rw [beq_ti q, cond_true, if_pos q]
    · rw [beq_fi q, cond_false, if_neg q]
      exact read_g2 N xs m0 m1 m2 at_ m4 k (by omega)
theorem read_eq (N : Nat) (b : List (List UInt8)) (c : List (Int × List UInt8)) (s : List (List UInt8)) (at_ : Int) (h1 : 0 ≤ at_) (h2 : at_ < (b.length : Int)) : g_impl_Disk_read N (b, c, s) at_ = some (rdD (b, c, s) at_) := by
  have e := read_g2 N c b c s at_ [] c.length (Nat.le_refl _)
  unfold g_impl_Disk_read rdD backs
  dsimp only
  rw [e]
  have hlt : at_.toNat < b.length := by omega
  cases rdF c at_ c.length with
  | some v => simp [alt]
  | none => simp (disch := omega) only [dec_t, gd_true, alt_inl, get_t, Option.bind_some, bind_id]; rfl
theorem pSync_append : ∀ (c d : List (Int × List UInt8)) (b : List (List UInt8)), pSync b (c ++ d) = pSync (pSync b c) d
  | [], _, _ => rfl
  | p :: c, d, b => pSync_append c d _
theorem pSync_get (c : List (Int × List UInt8)) (b : List (List UInt8)) (hc : ∀ p ∈ c, 0 ≤ p.1) (i : Nat) (hi : i < b.length) : ∀ k, k ≤ c.length → (pSync b (c.take k))[i]?.getD [] = match rdF c (i : Int) k with | some v => v | none => b[i]?.getD []
  | 0, _ => rfl
  | k + 1, hk => by
    have h : k < c.length := by omega
    have h0 := hc _ (List.getElem_mem h)
    rw [List.take_add_one, get_t h, pSync_append, rdF, get_t h]
    simp only [Option.toList, pSync]
    by_cases q : c[k].1 = (i : Int)
    · rw [if_pos q]
      have : c[k].1.toNat = i := by omega
      rw [this, List.getElem?_set_self (by rw [pSync_length]; exact hi)]
      rfl
    · rw [if_neg q, List.getElem?_set_ne (by omega)]
      exact pSync_get c b hc i hi k (by omega)
theorem rd_synced {d : DiskT} (h : OkD d) (s : List (List UInt8)) (i : Nat) (hi : i < d.1.length) : rdD (pSync d.1 d.2.1, [], s) (i : Int) = rdD d (i : Int) := by
  have := pSync_get d.2.1 d.1 (fun p hp => (h.c2 p hp).1) i hi d.2.1.length (Nat.le_refl _)
  rw [List.take_length] at this
  unfold rdD
  simp only [rdF, List.length_nil, Int.toNat_natCast]
  exact this
theorem same_l6 (N : Nat) (a b : DiskT) (hl : b.1.length = a.1.length) (hs : a.1.length ≤ 1000000) (he : ∀ i : Nat, i < a.1.length → rdD a (i : Int) = rdD b (i : Int)) : ∀ (n k : Nat), a.1.length ≤ k + n - 1 → 0 < n → k ≤ a.1.length →
    g_impl_DiskSame.l6 N n (a.1.length : Int) (k : Int) a.1 a.2.1 a.2.2 b.1 b.2.1 b.2.2 = some (.inr ())
  | 0, _, _, h, _ => by omega
  | n + 1, k, hn, _, hk => by
    unfold g_impl_DiskSame.l6
    by_cases h : k < a.1.length
    · have e1 := read_eq N a.1 a.2.1 a.2.2 (k : Int) (by omega) (by omega)
      have e2 := read_eq N b.1 b.2.1 b.2.2 (k : Int) (by omega) (by omega)
      have e3 := he k h
      have e4 : (rdD (a.1, a.2.1, a.2.2) (k : Int) == rdD (b.1, b.2.1, b.2.2) (k : Int)) = true := by
        rw [show (a.1, a.2.1, a.2.2) = a from rfl, show (b.1, b.2.1, b.2.2) = b from rfl, e3]; simp
      simp (disch := omega) only [e1, e2, e4, dec_t, cond_true, cond_false, Bool.not_true, Option.bind_some, bind_id, nc1, wi_of]
      exact same_l6 N a b hl hs he n (k + 1) (by omega) (by omega) (by omega)
    · simp (disch := omega) only [dec_f, cond_false, bind_id, nc1, wi_of]
theorem same_eq {N : Nat} (hN : 18446744073709551616 ≤ N) {a b : DiskT} (ha : OkD a) (hb : OkD b) (hl : b.1.length = a.1.length) (he : ∀ i : Nat, i < a.1.length → rdD a (i : Int) = rdD b (i : Int)) : g_impl_DiskSame N a b = some (true, 0) := by
  have h1 := ha.b2
  have e := same_l6 N a b hl (by omega) he N 0 (by omega) (by omega) (by omega)
  simp only [Int.natCast_zero] at e
  unfold g_impl_DiskSame
  simp (disch := omega) only [diskOK_eq hN ha, diskOK_eq hN hb, e, cond_false, alt_inr, Bool.not_true, Option.bind_some, bne_fi]
theorem diskStep_eq {N : Nat} (hN : 18446744073709551616 ≤ N) {d : DiskT} (h : OkD d) (a : ActT) (hg : GoodA a) : g_impl_DiskStep N d a = some (dStep d a) := by
  obtain ⟨g1, g2⟩ := hg
  have h1 := h.b2; have h2 := h.c1; have h3 := h.s3
  have hd := dStep_ok h a
  have k1 := hd.b2; have k2 := hd.c1; have k3 := hd.s3
  have e1 := own_eq N d.1 d.2.1 d.2.2 (by omega) (by omega) (by omega)
  have e2 := own_eq N (dStep d a).1.1 (dStep d a).1.2.1 (dStep d a).1.2.2 (by omega) (by omega) (by omega)
  rw [show (d.1, d.2.1, d.2.2) = d from rfl] at e1
  rw [show ((dStep d a).1.1, (dStep d a).1.2.1, (dStep d a).1.2.2) = (dStep d a).1 from rfl] at e2
  unfold g_impl_DiskStep
  simp (disch := omega) only [diskOK_eq hN h, e1, act_eq hN h a (by omega) (by omega), e2, cond_false, Bool.not_true, Option.bind_some]
theorem diskRead_eq {N : Nat} (hN : 18446744073709551616 ≤ N) {d : DiskT} (h : OkD d) (at_ : Int) (h1 : 0 ≤ at_) (h2 : at_ < (d.1.length : Int)) : g_impl_DiskRead N d at_ = some (rdD d at_, 0) := by
  have k1 := h.b2
  have e := read_eq N d.1 d.2.1 d.2.2 at_ h1 h2
  rw [show (d.1, d.2.1, d.2.2) = d from rfl] at e
  unfold g_impl_DiskRead g_impl_Disk_isAt
  simp (disch := omega) only [diskOK_eq hN h, dWithin, e, dec_t, cond_false, Bool.not_true, Bool.and_self, Option.bind_some, bind_id, wi_of]
theorem sameInts_l4 (N : Nat) (l : List Int) (hl : l.length ≤ 1000000) : ∀ (n k : Nat), l.length ≤ k + n - 1 → 0 < n → k ≤ l.length → g_laws_sameInts.l4 N n l l (k : Int) = some (.inr ())
  | 0, _, _, h, _ => by omega
  | n + 1, k, hn, _, hk => by
    unfold g_laws_sameInts.l4
    by_cases h : k < l.length
    · simp (disch := omega) only [dec_t, cond_true, cond_false, gd_true, Int.toNat_natCast, get_t, Option.bind_some, bind_id, nc1, wi_of, bne_fi]
      exact sameInts_l4 N l hl n (k + 1) (by omega) (by omega) (by omega)
    · simp (disch := omega) only [dec_t, dec_f, cond_false, gd_true, Int.toNat_natCast, bind_id, nc1, wi_of]
theorem sameInts_eq {N : Nat} (hN : 18446744073709551616 ≤ N) (l : List Int) (hl : l.length ≤ 1000000) : g_laws_sameInts N l l = some true := by
  have e := sameInts_l4 N l hl N 0 (by omega) (by omega) (by omega)
  simp only [Int.natCast_zero] at e
  unfold g_laws_sameInts
  simp (disch := omega) only [e, cond_false, alt_inr, Option.bind_some, bne_fi]
end Go.Vm
/- Draws. -/
set_option linter.unusedVariables false
set_option maxRecDepth 100000
namespace Go.Vm
abbrev SrcT := List UInt8 × Int × Int
structure InS (K : Nat) (s : SrcT) : Prop where
  len : s.1.length ≤ 1048576
  p0 : 0 ≤ s.2.1
  p1 : s.2.1 ≤ (K : Int)
  s0 : 0 ≤ s.2.2
  s1 : s.2.2 < 2147483648
theorem InS.mono {K L : Nat} {s : SrcT} (h : InS K s) (hl : K ≤ L) : InS L s := ⟨h.len, h.p0, by have := h.p1; omega, h.s0, h.s1⟩
theorem tmod_r (x n : Int) (h0 : 0 ≤ x) (hn : 0 < n) : 0 ≤ x.tmod n ∧ x.tmod n < n := ⟨Int.tmod_nonneg _ h0, Int.tmod_lt_of_pos _ hn⟩
theorem byte_draw (N : Nat) {K : Nat} (hK : K ≤ 1000000000) {s : SrcT} (h : InS K s) : ∃ s' v, g_spec_l00Src_byte__v N s = some (s', v) ∧ InS (K + 1) s' ∧ 0 ≤ v ∧ v ≤ 255 := by
  obtain ⟨code, pos, seed⟩ := s
  obtain ⟨h1, h2, h3, h4, h5⟩ := h
  dsimp only at h1 h2 h3 h4 h5
  unfold g_spec_l00Src_byte__v
  dsimp only
  obtain ⟨p, rfl⟩ : ∃ p : Nat, pos = (p : Int) := ⟨pos.toNat, by omega⟩
  have e1 : wi ((p : Int) + 1) = ((p + 1 : Nat) : Int) := by rw [wi_of] <;> omega
  have e2 : wi (((p + 1 : Nat) : Int) - 1) = (p : Int) := by rw [wi_of] <;> omega
  rw [e1, e2]
  by_cases hp : p < code.length
  · have hb := (code[p]).toNat_lt
    simp (disch := omega) only [dec_t, cond_true, gd_true, Int.toNat_natCast, get_t, Option.bind_some, wi_u8, wi_of]
    have q := tmod_r (seed * 31 + (code[p].toNat : Int) + 7) 2147483648 (by omega) (by omega)
    exact ⟨_, _, rfl, ⟨h1, by dsimp only; omega, by dsimp only; omega, q.1, q.2⟩, by omega, by omega⟩
  · by_cases hq : 3000 < p + 1
    · simp (disch := omega) only [dec_t, dec_f, cond_true, cond_false, gd_true, Int.toNat_natCast, wi_u8, wi_of]
      exact ⟨_, _, rfl, ⟨h1, by dsimp only; omega, by dsimp only; omega, h4, h5⟩, by omega, by omega⟩
    · have q := tmod_r (seed * 1103515245 + 12345) 2147483648 (by omega) (by omega)
      have e3 : wi (wi (seed * 1103515245) + 12345) = seed * 1103515245 + 12345 := by rw [wi_of (x := seed * 1103515245) (by omega) (by omega), wi_of (by omega) (by omega)]
      rw [e3]
      generalize (seed * 1103515245 + 12345).tmod 2147483648 = z at q ⊢
      have q2 : z.tdiv 65536 = z / 65536 := Int.tdiv_eq_ediv_of_nonneg q.1
      have q3 := tmod_r (z / 65536) 256 (by omega) (by omega)
      simp (disch := omega) only [dec_t, dec_f, cond_false, gd_true, Int.toNat_natCast, wi_u8, wi_of, q2]
      exact ⟨_, _, rfl, ⟨h1, by dsimp only; omega, by dsimp only; omega, q.1, q.2⟩, q3.1, by omega⟩
theorem next_draw (N : Nat) {K : Nat} (hK : K ≤ 100000000) {s : SrcT} (h : InS K s) (n : Int) (h1 : 1 ≤ n) (h2 : n ≤ 1000000000) : ∃ s' v, g_spec_l00Src_next__vb N s n = some (s', v) ∧ InS (K + 3) s' ∧ 0 ≤ v ∧ v < n := by
  unfold g_spec_l00Src_next__vb
  by_cases e1 : n ≤ 1
  · rw [dec_t e1, cond_true]
    exact ⟨_, _, rfl, h.mono (by omega), by omega, by omega⟩
  · obtain ⟨s1, v1, d1, i1, a1, b1⟩ := byte_draw N (by omega) h
    rw [dec_f e1, cond_false, d1]
    by_cases e2 : n ≤ 256
    · have q := tmod_r v1 n a1 (by omega)
      simp (disch := omega) only [dec_t, cond_true, cond_false, Option.bind_some, wi_of, beq_fi]
      exact ⟨_, _, rfl, i1.mono (by omega), q.1, q.2⟩
    · obtain ⟨s2, v2, d2, i2, a2, b2⟩ := byte_draw N (by omega) i1
      obtain ⟨s3, v3, d3, i3, a3, b3⟩ := byte_draw N (by omega) i2
      have q := tmod_r (v1 * 65536 + v2 * 256 + v3) n (by omega) (by omega)
      simp (disch := omega) only [dec_f, cond_false, Option.bind_some, wi_of, beq_fi, d2, d3]
      exact ⟨_, _, rfl, i3, q.1, q.2⟩
theorem pick_draw (N : Nat) {K : Nat} (hK : K ≤ 100000000) {s : SrcT} (h : InS K s) (l : List (List UInt8)) (h1 : 1 ≤ l.length) (h2 : l.length ≤ 1000000000) : ∃ s' v, g_spec_l00Src_pick__vb N s l = some (s', v) ∧ InS (K + 3) s' ∧ v ∈ l := by
  obtain ⟨s', v, d, i, a, b⟩ := next_draw N hK h (l.length : Int) (by omega) (by omega)
  have hv : v.toNat < l.length := by omega
  unfold g_spec_l00Src_pick__vb
  simp (disch := omega) only [dec_t, cond_false, gd_true, get_t, Option.bind_some, beq_fi, d]
  exact ⟨_, _, rfl, i, List.getElem_mem hv⟩
theorem datum_draw (N : Nat) {K : Nat} (hK : K ≤ 100000000) {s : SrcT} (h : InS K s) : ∃ s' v, g_spec_l00Src_datum__v N s = some (s', v) ∧ InS (K + 3) s' ∧ v.length ≤ 16 := by
  unfold g_spec_l00Src_datum__v
  obtain ⟨s', v, d, i, m⟩ := pick_draw N hK h ([([] : List UInt8), ([97, 98, 99] : List UInt8), ([98, 108, 111, 99, 107, 32, 111, 102, 32, 100, 97, 116, 97] : List UInt8), ([48, 49, 50, 51, 52, 53, 54, 55, 56, 57, 97, 98, 99, 100, 101, 102] : List UInt8), ([120] : List UInt8)] : List (List UInt8)) (by simp) (by simp)
  rw [d]
  refine ⟨_, _, rfl, i, ?_⟩
  simp only [List.mem_cons, List.not_mem_nil, or_false] at m
  rcases m with rfl | rfl | rfl | rfl | rfl <;> simp
theorem chance_draw (N : Nat) {K : Nat} (hK : K ≤ 100000000) {s : SrcT} (h : InS K s) (n : Int) (h1 : 1 ≤ n) (h2 : n ≤ 1000000000) : ∃ s' v, g_spec_l00Src_chance__vb N s n = some (s', v) ∧ InS (K + 3) s' := by
  obtain ⟨s', v, d, i, a, b⟩ := next_draw N hK h n h1 h2
  unfold g_spec_l00Src_chance__vb
  rw [d]
  exact ⟨_, _, rfl, i⟩
theorem flags_l3 (N : Nat) : ∀ (n i K : Nat) (s : SrcT) (acc : List Bool), i < n → K + 3 * i ≤ 10000000 → InS K s → acc.length + i ≤ 1000000 → ∃ s' l, g_spec_l00Src_flags__vb.l3 N n (i : Int) s.1 s.2.1 s.2.2 acc = some (s'.1, s'.2.1, s'.2.2, l) ∧ InS (K + 3 * i) s' ∧ l.length = acc.length + i
  | 0, _, _, _, _, h, _, _, _ => by omega
  | n + 1, 0, K, s, acc, _, hK, h, ha => by
    unfold g_spec_l00Src_flags__vb.l3
    exact ⟨s, acc, by simp, h.mono (by omega), by omega⟩
  | n + 1, i + 1, K, s, acc, hi, hK, h, ha => by
    unfold g_spec_l00Src_flags__vb.l3
    obtain ⟨s1, v1, d1, i1⟩ := chance_draw N (K := K) (by omega) (s := (s.1, s.2.1, s.2.2)) h 2 (by omega) (by omega)
    obtain ⟨s2, l, d2, i2, e2⟩ := flags_l3 N n i (K + 3) s1 (acc ++ [v1]) (by omega) (by omega) i1 (by simp; omega)
    have e : wi (((i + 1 : Nat) : Int) - 1) = (i : Int) := by rw [wi_of] <;> omega
    simp (disch := omega) only [dec_t, cond_true, gd_true, Option.bind_some, bind_id, wi_of, room_t, List.length_cons, List.length_nil, d1, ncp, d2]
    exact ⟨s2, l, rfl, i2.mono (by omega), by rw [e2]; simp; omega⟩
theorem flags_draw {N : Nat} (hN : 18446744073709551616 ≤ N) {K : Nat} (hK : K ≤ 1000000) {s : SrcT} (h : InS K s) : ∃ s' v, g_spec_l00Src_flags__vb N s 6 = some (s', v) ∧ InS (K + 21) s' ∧ v.length ≤ 6 := by
  obtain ⟨s', v, d, i, a, b⟩ := next_draw N (by omega) h 7 (by omega) (by omega)
  obtain ⟨k, rfl⟩ : ∃ k : Nat, v = (k : Int) := ⟨v.toNat, by omega⟩
  obtain ⟨s2, l, d2, i2, e2⟩ := flags_l3 N N k (K + 3) s' [] (by omega) (by omega) i (by simp; omega)
  unfold g_spec_l00Src_flags__vb
  have e : wi ((6 : Int) + 1) = 7 := by rw [wi_of] <;> omega
  simp only [e, d, Option.bind_some, d2]
  exact ⟨_, _, rfl, i2.mono (by omega), by rw [e2]; simp; omega⟩
end Go.Vm
/- What is read of a disk is what was written last; behind a sync a crash changes nothing. -/
set_option linter.unusedVariables false
set_option maxRecDepth 100000
namespace Go.Vm
theorem acts_l3 {N : Nat} (hN : 18446744073709551616 ≤ N) (c0 : Int) (h0 : 1 ≤ c0) (h0' : c0 ≤ 1000) : ∀ (n i K : Nat) (s : SrcT) (acc : List ActT), i < n → K + 40 * i ≤ 100000 → InS K s → acc.length + i ≤ 1000 → (∀ a ∈ acc, GoodA a) →
    ∃ (s' : SrcT) (l : List ActT), g_spec_l00Src_diskActs__vb.l3 N n c0 (i : Int) s.1 s.2.1 s.2.2 acc = some (s'.1, s'.2.1, s'.2.2, l) ∧ l.length ≤ acc.length + i ∧ ∀ a ∈ l, GoodA a
  | 0, _, _, _, _, h, _, _, _, _ => by omega
  | n + 1, 0, K, s, acc, _, hK, h, ha, hg => by
    unfold g_spec_l00Src_diskActs__vb.l3
    exact ⟨s, acc, by simp, by omega, hg⟩
  | n + 1, i + 1, K, s, acc, hi, hK, h, ha, hg => by
    unfold g_spec_l00Src_diskActs__vb.l3
    by_cases hl : (acc.length : Int) < 120
    · obtain ⟨s1, v1, d1, i1, a1, b1⟩ := next_draw N (by omega) (s := (s.1, s.2.1, s.2.2)) h c0 h0 (by omega)
      obtain ⟨s2, v2, d2, i2, a2⟩ := datum_draw N (by omega) i1
      obtain ⟨s3, v3, d3, i3, a3, b3⟩ := next_draw N (by omega) i2 10 (by omega) (by omega)
      have go : ∀ (L : Nat) (t : SrcT) (x : ActT), InS L t → L ≤ K + 40 → GoodA x → ∃ (s' : SrcT) (l : List ActT), g_spec_l00Src_diskActs__vb.l3 N n c0 (i : Int) t.1 t.2.1 t.2.2 (acc ++ [x]) = some (s'.1, s'.2.1, s'.2.2, l) ∧ l.length ≤ acc.length + (i + 1) ∧ ∀ a ∈ l, GoodA a := fun L t x h1 h2 h3 => by
        obtain ⟨s', l, e1, e2, e3⟩ := acts_l3 hN c0 h0 h0' n i L t (acc ++ [x]) (by omega) (by omega) h1 (by simp; omega) (fun a ha => by
          rcases List.mem_append.1 ha with ha | ha
          · exact hg a ha
          · rw [List.mem_singleton.1 ha]; exact h3)
        exact ⟨s', l, e1, by simp at e2; omega, e3⟩
      by_cases q0 : v3 = 0
      · simp (disch := omega) only [dec_t, cond_true, cond_false, gd_true, Option.bind_some, bind_id, wi_of, room_t, beq_ti, beq_fi, List.length_cons, List.length_nil, d1, d2, d3, ncp]
        exact go _ s3 _ i3 (by omega) ⟨by simp, by simp⟩
      · by_cases q1 : v3 = 1
        · simp (disch := omega) only [dec_t, cond_true, cond_false, gd_true, Option.bind_some, bind_id, wi_of, room_t, beq_ti, beq_fi, List.length_cons, List.length_nil, d1, d2, d3, ncp]
          exact go _ s3 _ i3 (by omega) ⟨by simp, by simp⟩
        · by_cases q2 : v3 = 2
          · obtain ⟨s4, v4, d4, i4, a4⟩ := flags_draw hN (by omega) i3
            obtain ⟨s5, v5, d5, i5, a5, b5⟩ := next_draw N (by omega) i4 9 (by omega) (by omega)
            simp (disch := omega) only [dec_t, cond_true, cond_false, gd_true, Option.bind_some, bind_id, wi_of, room_t, beq_ti, beq_fi, List.length_cons, List.length_nil, d1, d2, d3, d4, d5, ncp]
            exact go _ s5 _ i5 (by omega) ⟨by simp, by dsimp only; omega⟩
          · by_cases q3 : v3 = 3
            · obtain ⟨s5, v5, d5, i5, a5, b5⟩ := next_draw N (by omega) i3 2 (by omega) (by omega)
              simp (disch := omega) only [dec_t, cond_true, cond_false, gd_true, Option.bind_some, bind_id, wi_of, room_t, beq_ti, beq_fi, List.length_cons, List.length_nil, d1, d2, d3, d5, ncp]
              exact go _ s5 _ i5 (by omega) ⟨by simp, by simp⟩
            · by_cases q4 : v3 = 4
              · simp (disch := omega) only [dec_t, cond_true, cond_false, gd_true, Option.bind_some, bind_id, wi_of, room_t, beq_ti, beq_fi, List.length_cons, List.length_nil, d1, d2, d3, ncp]
                exact go _ s3 _ i3 (by omega) ⟨by dsimp only; omega, by simp⟩
              · simp (disch := omega) only [dec_t, cond_true, cond_false, gd_true, Option.bind_some, bind_id, wi_of, room_t, beq_fi, List.length_cons, List.length_nil, d1, d2, d3, ncp]
                exact go _ s3 _ i3 (by omega) ⟨by dsimp only; omega, by simp⟩
    · simp (disch := omega) only [dec_t, dec_f, cond_true, cond_false, gd_true, bind_id, wi_of, room_t, List.length_cons, List.length_nil]
      exact ⟨s, acc, rfl, by omega, hg⟩
theorem source_ok (N : Nat) (code : List UInt8) (hc : code.length ≤ 1048576) : ∃ s, g_spec_l00Source N code = some s ∧ InS 0 s := by
  unfold g_spec_l00Source
  have q := tmod_r (code.length : Int) 1000 (by omega) (by omega)
  exact ⟨_, rfl, hc, by simp, by simp, q.1, by dsimp only; omega⟩
theorem acts_draw {N : Nat} (hN : 18446744073709551616 ≤ N) (code : List UInt8) (hc : code.length ≤ 1048576) : ∃ l, g_spec_DiskActsOf N code 4 = some l ∧ l.length ≤ 1000 ∧ ∀ a ∈ l, GoodA a := by
  obtain ⟨s, e1, h⟩ := source_ok N code hc
  have hs := h.len
  have q : (s.1.length : Int).tdiv 12 = (s.1.length : Int) / 12 := Int.tdiv_eq_ediv_of_nonneg (by omega)
  have e2 : g_spec_l00Src_size__qb N s 24 = some (min (1 + (s.1.length : Int) / 12) 24) := by
    unfold g_spec_l00Src_size__qb
    simp (disch := omega) only [q, wi_of]
  obtain ⟨s1, v1, d1, i1, a1, b1⟩ := next_draw N (by omega) h (min (1 + (s.1.length : Int) / 12) 24 + 3) (by omega) (by omega)
  obtain ⟨k, rfl⟩ : ∃ k : Nat, v1 = (k : Int) := ⟨v1.toNat, by omega⟩
  obtain ⟨s', l, e3, e4, e5⟩ := acts_l3 hN 4 (by omega) (by omega) N k 3 s1 [] (by omega) (by omega) i1 (by simp; omega) (by simp)
  unfold g_spec_DiskActsOf g_spec_l00Src_diskActs__vb
  have e6 : wi (min (1 + (s.1.length : Int) / 12) 24 + 3) = min (1 + (s.1.length : Int) / 12) 24 + 3 := by rw [wi_of] <;> omega
  simp only [e1, e2, e6, d1, e3, Option.bind_some]
  exact ⟨l, rfl, by simp at e4; omega, e5⟩
theorem flagsOf_draw {N : Nat} (hN : 18446744073709551616 ≤ N) (code : List UInt8) (hc : code.length ≤ 1048576) : ∃ l, g_spec_FlagsOf N code 6 = some l ∧ l.length ≤ 6 := by
  obtain ⟨s, e1, h⟩ := source_ok N code hc
  obtain ⟨s1, v1, d1, i1, a1⟩ := flags_draw hN (by omega) h
  unfold g_spec_FlagsOf
  simp only [e1, d1, Option.bind_some]
  exact ⟨v1, rfl, a1⟩
theorem at_draw (N : Nat) (more : List UInt8) (hm : more.length ≤ 1048576) (i n : Nat) (hi : i ≤ 1000) (h1 : 1 ≤ n) (h2 : n ≤ 1000000) : ∃ v, g_laws_at N more (i : Int) (n : Int) = some v ∧ 0 ≤ v ∧ v < (n : Int) := by
  unfold g_laws_at
  by_cases e1 : (n : Int) ≤ 1
  · rw [dec_t e1, cond_true]
    exact ⟨0, rfl, by omega, by omega⟩
  · rw [dec_f e1, cond_false]
    by_cases e2 : more.length = 0
    · have q := tmod_r ((i : Int) * 7) (n : Int) (by omega) (by omega)
      simp (disch := omega) only [cond_true, cond_false, nc1, wi_u8, wi_of, beq_ti, beq_fi]
      exact ⟨_, rfl, q.1, q.2⟩
    · have q1 := tmod_r (i : Int) (more.length : Int) (by omega) (by omega)
      have q2 := tmod_r ((i : Int) + 1) (more.length : Int) (by omega) (by omega)
      have q3 : (i : Int).tdiv (more.length : Int) = (i : Int) / (more.length : Int) := Int.tdiv_eq_ediv_of_nonneg (by omega)
      have q4 : 0 ≤ (i : Int) / (more.length : Int) := Int.ediv_nonneg (by omega) (by omega)
      have q5 : (i : Int) / (more.length : Int) ≤ i := Int.ediv_le_self _ (by omega)
      generalize hx : (i : Int).tmod (more.length : Int) = x at q1 ⊢
      generalize hy : ((i : Int) + 1).tmod (more.length : Int) = y at q2
      generalize hz : (i : Int) / (more.length : Int) = z at q3 q4 q5
      have lx : x.toNat < more.length := by omega
      have ly : y.toNat < more.length := by omega
      have b1 := (more[x.toNat]).toNat_lt
      have b2 := (more[y.toNat]).toNat_lt
      have hw : wi ((i : Int) + 1) = (i : Int) + 1 := by rw [wi_of] <;> omega
      have q := tmod_r ((more[x.toNat].toNat : Int) * 31 + (more[y.toNat].toNat : Int) + z) (n : Int) (by omega) (by omega)
      rw [hw, hy, q3]
      simp (disch := omega) only [dec_t, cond_false, gd_true, get_t, Option.bind_some, wi_u8, wi_of, beq_fi]
      exact ⟨_, rfl, q.1, q.2⟩
theorem FnDisk_true {N : Nat} (hN : 18446744073709551616 ≤ N) (code more : List UInt8) : g_laws_FnDisk N code more = some true := by
  unfold g_laws_FnDisk
  by_cases hc : code.length ≤ 1048576
  · by_cases hm : more.length ≤ 1048576
    · obtain ⟨l, e1, hl, hg⟩ := acts_draw hN code hc
      simp (disch := omega) only [e1, dec_f, cond_false, gd_true, Option.bind_some, wi_of, room_t, List.length_append, List.length_cons, List.length_nil]
      by_cases hn : (l.length : Int) + 2 > 120
      · simp (disch := omega) only [dec_t, cond_true]
      · obtain ⟨fl, e2, hf⟩ := flagsOf_draw hN more hm
        obtain ⟨t, e3, t1, t2⟩ := at_draw N more hm 0 20 (by omega) (by omega) (by omega)
        obtain ⟨k, e4, k1, k2⟩ := at_draw N more hm 1 4 (by omega) (by omega) (by omega)
        have hd := dRun_ok l _ (newD_ok (n := 4) (by omega) (by omega))
        have hb := dRun_blocks l _ (newD_ok (n := 4) (by omega) (by omega))
        have hcl := dRun_cache l (newD 4)
        have f1 := iRun_eq hN l (by omega) hg
        have f2 := sRun_eq hN l (by omega) hg
        have hgE : ∀ a ∈ l ++ ([(2, 0, ([] : List UInt8), [], 0), (3, 0, ([] : List UInt8), fl, t)] : List ActT), GoodA a := fun a ha => by
          rcases List.mem_append.1 ha with ha | ha
          · exact hg a ha
          · simp only [List.mem_cons, List.not_mem_nil, or_false] at ha
            rcases ha with rfl | rfl
            · exact ⟨by simp, by simp⟩
            · exact ⟨by simp, by dsimp only; omega⟩
        have f3 := iRun_eq hN (l ++ ([(2, 0, ([] : List UInt8), [], 0), (3, 0, ([] : List UInt8), fl, t)] : List ActT)) (by simp; omega) hgE
        have hE : (dRun (newD 4) (l ++ ([(2, 0, ([] : List UInt8), [], 0), (3, 0, ([] : List UInt8), fl, t)] : List ActT))).1 = (pSync (dRun (newD 4) l).1.1 (dRun (newD 4) l).1.2.1, [], (dRun (newD 4) l).1.2.2) := by
          rw [dRun_append]; rfl
        have hr : (dRun (newD 4) l).2.length = l.length := by
          have : ∀ (l : List ActT) (d : DiskT), (dRun d l).2.length = l.length := by
            intro l
            induction l with
            | nil => intro d; rfl
            | cons a l ih => intro d; simp [dRun, ih]
          exact this l _
        rw [hE] at f3
        have hdE := dRun_ok (l ++ ([(2, 0, ([] : List UInt8), [], 0), (3, 0, ([] : List UInt8), fl, t)] : List ActT)) _ (newD_ok (n := 4) (by omega) (by omega))
        rw [hE] at hdE
        generalize hR : (dRun (newD 4) (l ++ ([(2, 0, ([] : List UInt8), [], 0), (3, 0, ([] : List UInt8), fl, t)] : List ActT))).2 = rs at f3
        generalize hD : (dRun (newD 4) l).1 = D at f1 f2 f3 hd hb hcl hE hdE
        generalize hC : (dRun (newD 4) l).2 = cs at f1 f2 hr
        have hb4 : D.1.length = 4 := hb
        have hc0 : (newD 4).2.1.length = 0 := rfl
        have f4 := same_eq hN hd hd rfl (fun _ _ => rfl)
        have f5 := same_eq hN hd hdE (by simp [pSync_length]) (fun i hi => (rd_synced hd _ i hi).symm)
        have f6 := sameInts_eq hN cs (by omega)
        have f7 := diskOK_eq hN hd
        have hst : dStep D (1, k, ([119, 114, 105, 116, 116, 101, 110] : List UInt8), [], 0) = ((D.1, D.2.1 ++ [(k, [119, 114, 105, 116, 116, 101, 110])], D.2.2), 0) := by
          unfold dStep
          dsimp only
          rw [if_pos (.inl rfl), if_pos ⟨k1, by omega⟩, if_neg (by simp), if_neg (by omega), if_neg (by omega)]
        have f8 := diskStep_eq hN hd (1, k, ([119, 114, 105, 116, 116, 101, 110] : List UInt8), [], 0) ⟨by simp, by simp⟩
        have hdw := dStep_ok hd (1, k, ([119, 114, 105, 116, 116, 101, 110] : List UInt8), [], 0)
        rw [hst] at f8 hdw
        have f9 := diskRead_eq hN hdw k k1 (by dsimp only; omega)
        have hrd : rdD (D.1, D.2.1 ++ [(k, [119, 114, 105, 116, 116, 101, 110])], D.2.2) k = [119, 114, 105, 116, 116, 101, 110] := by
          unfold rdD
          simp [rdF]
        rw [hrd] at f9
        have e3' : g_laws_at N more 0 20 = some t := e3
        have e4' : g_laws_at N more 1 4 = some k := e4
        simp (disch := omega) only [f1, f2, f4, f6, f7, List.nil_append, e2, e3', f3, f5, e4', f8, f9, dec_f, cond_true, cond_false, Bool.not_true, Option.bind_some, beq_ti, bne_fi, List.length_nil]
        simp
    · simp (disch := omega) only [dec_t, dec_f, cond_true, cond_false, List.length_append, List.length_cons, List.length_nil]
  · simp (disch := omega) only [dec_t, cond_true, List.length_append, List.length_cons, List.length_nil]
theorem law_FnDisk (code more : List UInt8) {p q : Prop} (_ : p) (_ : q) : ∃ N, g_laws_FnDisk N code more = some true := ⟨18446744073709551616, FnDisk_true (Nat.le_refl _) code more⟩
end Go.Vm

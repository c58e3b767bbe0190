/- A part of the proof: an abstract machine, mirrors and their laws, one text behind the other. -/
import Derived.Test.YtfphingbjjhjcaaGreatVD5
set_option linter.unusedVariables false
set_option maxRecDepth 100000
namespace Go.Vm
abbrev DiskT := List (List UInt8) × List (Int × List UInt8) × List (List UInt8)
abbrev ActT := Int × Int × List UInt8 × List Bool × Int
structure OkD (d : DiskT) : Prop where
  b1 : 1 ≤ d.1.length
  b2 : d.1.length ≤ 64
  b3 : ∀ x ∈ d.1, x.length ≤ 200
  c1 : d.2.1.length ≤ 4096
  c2 : ∀ p ∈ d.2.1, 0 ≤ p.1 ∧ p.1 < (d.1.length : Int) ∧ p.2.length ≤ 200
  s1 : d.2.2 = [] ∨ d.2.2.length = d.1.length
  s2 : ∀ x ∈ d.2.2, x.length ≤ 200
theorem OkD.s3 {d : DiskT} (h : OkD d) : d.2.2.length ≤ 64 := by
  rcases h.s1 with e | e
  · rw [e]; simp
  · rw [e]; exact h.b2
theorem dWithin (N : Nat) (x a b : Int) : g_bz N x a b = some (decide (a ≤ x) && decide (x ≤ b)) := by
  unfold g_bz
  by_cases h : a ≤ x <;> simp [h]
theorem dIn (N : Nat) (x a b : Int) : g_dp N x a b = some (decide (a ≤ x) && decide (x ≤ b)) := by
  unfold g_dp
  by_cases h : a ≤ x <;> simp [h]
theorem cloneS (N : Nat) (xs : List (List UInt8)) (h : xs.length ≤ 100000) : g_cz N xs = some xs := by
  unfold g_cz g_da
  cases xs with
  | nil => rfl
  | cons x xs => simp (disch := omega) only [List.isEmpty_cons, cond_false, gd_true, room_t, List.length_cons, List.nil_append] at h ⊢
theorem cloneP (N : Nat) (xs : List (Int × List UInt8)) (h : xs.length ≤ 100000) : g_cx N xs = some xs := by
  unfold g_cx g_cy
  cases xs with
  | nil => rfl
  | cons x xs => simp (disch := omega) only [List.isEmpty_cons, cond_false, gd_true, room_t, List.length_cons, List.nil_append] at h ⊢
theorem own_eq (N : Nat) (b : List (List UInt8)) (c : List (Int × List UInt8)) (s : List (List UInt8)) (h1 : b.length ≤ 100000) (h2 : c.length ≤ 100000) (h3 : s.length ≤ 100000) : g_ai N (b, c, s) = some (b, c, s) := by
  unfold g_ai
  simp only [cloneS N b h1, cloneP N c h2, cloneS N s h3, Option.bind_some]
theorem sOwn_eq (N : Nat) (b : List (List UInt8)) (c : List (Int × List UInt8)) (s : List (List UInt8)) (h1 : b.length ≤ 100000) (h2 : c.length ≤ 100000) (h3 : s.length ≤ 100000) : g_em N (b, c, s) = some (b, c, s) := by
  unfold g_em
  simp (disch := omega) only [gd_true, room_t, List.nil_append]
def pSync (b : List (List UInt8)) : List (Int × List UInt8) → List (List UInt8)
  | [] => b
  | p :: c => pSync (b.set p.1.toNat p.2) c
theorem pSync_length : ∀ (c : List (Int × List UInt8)) (b : List (List UInt8)), (pSync b c).length = b.length
  | [], _ => rfl
  | p :: c, b => by rw [pSync, pSync_length c]; simp
theorem pSync_short : ∀ (c : List (Int × List UInt8)) (b : List (List UInt8)), (∀ x ∈ b, x.length ≤ 200) → (∀ p ∈ c, p.2.length ≤ 200) → ∀ x ∈ pSync b c, x.length ≤ 200
  | [], _, h, _ => h
  | p :: c, b, h, hc => pSync_short c _ (fun x hx => by
      rcases List.mem_or_eq_of_mem_set hx with h' | rfl
      · exact h x h'
      · exact hc p (by simp)) (fun q hq => hc q (by simp [hq]))
theorem sync_l1 (N : Nat) : ∀ (n k : Nat) (c : List (Int × List UInt8)) (b s : List (List UInt8)), c.length ≤ k + n - 1 → 0 < n → k ≤ c.length → c.length ≤ 2000000 → (∀ p ∈ c, 0 ≤ p.1 ∧ p.1 < (b.length : Int)) →
    g_al.l1 N n (c.length : Int) (k : Int) c b s = some (pSync b (c.drop k), c, s)
  | 0, _, _, _, _, _, h, _, _, _ => by omega
  | n + 1, k, c, b, s, hn, _, hk, hl, hc => by
    unfold g_al.l1
    by_cases h : k < c.length
    · obtain ⟨h1, h2⟩ := hc _ (List.getElem_mem h)
      rw [drop_get h]
      simp (disch := omega) only [dec_t, cond_true, gd_true, Int.toNat_natCast, get_t, Option.bind_some, bind_id, nc1, wi_of]
      rw [sync_l1 N n (k + 1) c _ s (by omega) (by omega) (by omega) hl (by simpa using hc)]
      rfl
    · simp (disch := omega) only [dec_t, dec_f, cond_false, gd_true, Int.toNat_natCast, bind_id, nc1, wi_of, List.drop_of_length_le, pSync]
theorem sync_l3 (N : Nat) (m1 : List (List UInt8)) (m3 : List (List UInt8)) (m5 : List (Int × List UInt8)) : ∀ (n k : Nat) (c : List (Int × List UInt8)) (b s : List (List UInt8)), c.length ≤ k + n - 1 → 0 < n → k ≤ c.length → c.length ≤ 2000000 → (∀ p ∈ c, 0 ≤ p.1 ∧ p.1 < (b.length : Int)) →
    g_ep.l3 N n (k : Int) m1 c m3 b m5 s = some (pSync b (c.drop k), m5, s)
  | 0, _, _, _, _, _, h, _, _, _ => by omega
  | n + 1, k, c, b, s, hn, _, hk, hl, hc => by
    unfold g_ep.l3
    by_cases h : k < c.length
    · obtain ⟨h1, h2⟩ := hc _ (List.getElem_mem h)
      rw [drop_get h]
      simp (disch := omega) only [dec_t, cond_true, gd_true, Int.toNat_natCast, get_t, Option.bind_some, bind_id, nc1, wi_of]
      rw [sync_l3 N m1 m3 m5 n (k + 1) c _ s (by omega) (by omega) (by omega) hl (by simpa using hc)]
      rfl
    · simp (disch := omega) only [dec_t, dec_f, cond_false, gd_true, Int.toNat_natCast, bind_id, nc1, wi_of, List.drop_of_length_le, pSync]
def tornD (new old : List UInt8) (t : Int) : List UInt8 := new.take (min (max t 0) (new.length : Int)).toNat ++ old.drop (min (min (max t 0) (new.length : Int)) (old.length : Int)).toNat
theorem tornD_short {new old : List UInt8} {t : Int} (h1 : new.length ≤ 200) (h2 : old.length ≤ 200) : (tornD new old t).length ≤ 200 := by
  unfold tornD
  simp only [List.length_append, List.length_take, List.length_drop]
  omega
def pCrash (keep : List Bool) (t : Int) : Bool → Nat → List (Int × List UInt8) → List (List UInt8) → List (List UInt8)
  | _, _, [], b => b
  | tn, k, p :: c, b => if keep[k]? = some true then pCrash keep t tn (k + 1) c (b.set p.1.toNat p.2) else
    if tn = true then pCrash keep t tn (k + 1) c b else pCrash keep t true (k + 1) c (b.set p.1.toNat (tornD p.2 (b[p.1.toNat]?.getD []) t))
theorem pCrash_length (keep : List Bool) (t : Int) : ∀ (c : List (Int × List UInt8)) (tn : Bool) (k : Nat) (b : List (List UInt8)), (pCrash keep t tn k c b).length = b.length
  | [], _, _, _ => rfl
  | p :: c, tn, k, b => by
    rw [pCrash]
    split
    · rw [pCrash_length keep t c]; simp
    · split
      · rw [pCrash_length keep t c]
      · rw [pCrash_length keep t c]; simp
theorem set_short {b : List (List UInt8)} {i : Nat} {y : List UInt8} (h : ∀ x ∈ b, x.length ≤ 200) (hy : y.length ≤ 200) : ∀ x ∈ b.set i y, x.length ≤ 200 := fun x hx => by
  rcases List.mem_or_eq_of_mem_set hx with h' | rfl
  · exact h x h'
  · exact hy
theorem pCrash_short (keep : List Bool) (t : Int) : ∀ (c : List (Int × List UInt8)) (tn : Bool) (k : Nat) (b : List (List UInt8)), (∀ x ∈ b, x.length ≤ 200) → (∀ p ∈ c, p.2.length ≤ 200) → ∀ x ∈ pCrash keep t tn k c b, x.length ≤ 200
  | [], _, _, _, h, _ => h
  | p :: c, tn, k, b, h, hc => by
    have hc' : ∀ q ∈ c, q.2.length ≤ 200 := fun q hq => hc q (by simp [hq])
    have hp := hc p (by simp)
    rw [pCrash]
    split
    · exact pCrash_short keep t c _ _ _ (set_short h hp) hc'
    · split
      · exact pCrash_short keep t c _ _ _ h hc'
      · refine pCrash_short keep t c _ _ _ (set_short h (tornD_short hp ?_)) hc'
        cases e : b[p.1.toNat]? with
        | none => simp
        | some y => exact h y (List.mem_of_getElem? e)
theorem crash_l2 (N : Nat) (keep : List Bool) (t : Int) (hkl : keep.length ≤ 2000000) : ∀ (n k : Nat) (tn : Bool) (c : List (Int × List UInt8)) (b s : List (List UInt8)), c.length ≤ k + n - 1 → 0 < n → k ≤ c.length → c.length ≤ 2000000 → (∀ x ∈ b, x.length ≤ 200) → (∀ p ∈ c, 0 ≤ p.1 ∧ p.1 < (b.length : Int) ∧ p.2.length ≤ 200) →
    g_af.l2 N n keep t (c.length : Int) tn (k : Int) c b s = some (pCrash keep t tn k (c.drop k) b, c, s)
  | 0, _, _, _, _, _, _, h, _, _, _, _ => by omega
  | n + 1, k, tn, c, b, s, hn, _, hk, hl, hb, hc => by
    unfold g_af.l2
    by_cases h : k < c.length
    · obtain ⟨h1, h2, h3⟩ := hc _ (List.getElem_mem h)
      have hbk : (c[k].1.toNat) < b.length := by omega
      have h4 := hb _ (List.getElem_mem hbk)
      have ht := tornD_short (t := t) h3 h4
      have hlen : ((c[k].2.take (min (max t 0) (c[k].2.length : Int)).toNat).drop 0).length + ((b[c[k].1.toNat].take b[c[k].1.toNat].length).drop (min (min (max t 0) (c[k].2.length : Int)) (b[c[k].1.toNat].length : Int)).toNat).length ≤ 9223372036854775807 := by
        simp only [List.length_take, List.length_drop]; omega
      have hrec : ∀ (tn : Bool) (b' : List (List UInt8)), b'.length = b.length → (∀ x ∈ b', x.length ≤ 200) → g_af.l2 N n keep t (c.length : Int) tn ((k + 1 : Nat) : Int) c b' s = some (pCrash keep t tn (k + 1) (c.drop (k + 1)) b', c, s) := fun tn b' e1 e2 =>
        crash_l2 N keep t hkl n (k + 1) tn c b' s (by omega) (by omega) (by omega) hl e2 (by rw [e1]; exact hc)
      have hget : b[c[k].1.toNat]?.getD [] = b[c[k].1.toNat] := by rw [get_t hbk]; rfl
      have et : tornD c[k].2 b[c[k].1.toNat] t = c[k].2.take (min (max t 0) (c[k].2.length : Int)).toNat ++ b[c[k].1.toNat].drop (min (min (max t 0) (c[k].2.length : Int)) (b[c[k].1.toNat].length : Int)).toNat := rfl
      rw [drop_get h, pCrash, hget]
      by_cases hk2 : k < keep.length
      · rw [get_t hk2]
        cases hv : keep[k]
        · cases tn
          · simp (disch := omega) only [dec_t, cond_true, cond_false, gd_true, Bool.not_false, Bool.and_self, Int.toNat_natCast, get_t, Option.bind_some, bind_id, nc1, wi_of, List.length_take, List.length_drop, hv, List.drop_zero, List.take_length]
            rw [← et, hrec _ _ (by simp) (set_short hb ht)]
            simp
          · simp (disch := omega) only [dec_t, cond_true, cond_false, gd_true, Bool.not_true, Bool.and_self, Int.toNat_natCast, get_t, Option.bind_some, bind_id, nc1, wi_of, List.length_take, List.length_drop, hv]
            rw [hrec _ _ rfl hb]
            simp
        · simp (disch := omega) only [dec_t, cond_true, gd_true, Bool.and_self, Int.toNat_natCast, get_t, Option.bind_some, bind_id, nc1, wi_of, List.length_take, List.length_drop, hv]
          rw [hrec _ _ (by simp) (set_short hb h3)]
          simp
      · rw [show keep[k]? = none from List.getElem?_eq_none (by omega)]
        cases tn
        · simp (disch := omega) only [dec_t, dec_f, cond_true, cond_false, gd_true, Bool.not_false, Bool.and_self, Int.toNat_natCast, get_t, Option.bind_some, bind_id, nc1, wi_of, List.length_take, List.length_drop, List.drop_zero, List.take_length]
          rw [← et, hrec _ _ (by simp) (set_short hb ht)]
          simp
        · simp (disch := omega) only [dec_t, dec_f, cond_true, cond_false, gd_true, Bool.not_true, Bool.and_self, Int.toNat_natCast, get_t, Option.bind_some, bind_id, nc1, wi_of, List.length_take, List.length_drop]
          rw [hrec _ _ rfl hb]
          simp
    · simp (disch := omega) only [dec_t, dec_f, cond_false, gd_true, Bool.and_self, Int.toNat_natCast, bind_id, nc1, wi_of, List.length_take, List.length_drop, List.drop_of_length_le, pCrash]
end Go.Vm
namespace Go.Vm
theorem mmx (t : Int) (n : Nat) : max 0 (min t (n : Int)) = min (max t 0) (n : Int) := by omega
theorem crash_l5 (N : Nat) (keep : List Bool) (t : Int) (m4 m6 : List (List UInt8)) (m8 : List (Int × List UInt8)) (m9 : List (List UInt8)) (hkl : keep.length ≤ 2000000) : ∀ (n k : Nat) (tn : Bool) (c : List (Int × List UInt8)) (b : List (List UInt8)), c.length ≤ k + n - 1 → 0 < n → k ≤ c.length → c.length ≤ 2000000 → (∀ x ∈ b, x.length ≤ 200) → (∀ p ∈ c, 0 ≤ p.1 ∧ p.1 < (b.length : Int) ∧ p.2.length ≤ 200) →
    g_el.l5 N n keep t (!tn) (k : Int) m4 c m6 b m8 m9 = some (pCrash keep t tn k (c.drop k) b, m8, m9)
  | 0, _, _, _, _, _, h, _, _, _, _ => by omega
  | n + 1, k, tn, c, b, hn, _, hk, hl, hb, hc => by
    unfold g_el.l5
    by_cases h : k < c.length
    · obtain ⟨h1, h2, h3⟩ := hc _ (List.getElem_mem h)
      have hbk : (c[k].1.toNat) < b.length := by omega
      have h4 := hb _ (List.getElem_mem hbk)
      have ht := tornD_short (t := t) h3 h4
      have hlen : ((c[k].2.take (min (max t 0) (c[k].2.length : Int)).toNat).drop 0).length + ((b[c[k].1.toNat].take b[c[k].1.toNat].length).drop (min (min (max t 0) (c[k].2.length : Int)) (b[c[k].1.toNat].length : Int)).toNat).length ≤ 9223372036854775807 := by
        simp only [List.length_take, List.length_drop]; omega
      have hrec : ∀ (tn : Bool) (b' : List (List UInt8)), b'.length = b.length → (∀ x ∈ b', x.length ≤ 200) → g_el.l5 N n keep t (!tn) ((k + 1 : Nat) : Int) m4 c m6 b' m8 m9 = some (pCrash keep t tn (k + 1) (c.drop (k + 1)) b', m8, m9) := fun tn b' e1 e2 =>
        crash_l5 N keep t m4 m6 m8 m9 hkl n (k + 1) tn c b' (by omega) (by omega) (by omega) hl e2 (by rw [e1]; exact hc)
      have hrt := hrec true
      have hrf := hrec false
      rw [Bool.not_true] at hrt
      rw [Bool.not_false] at hrf
      have hget : b[c[k].1.toNat]?.getD [] = b[c[k].1.toNat] := by rw [get_t hbk]; rfl
      have et : tornD c[k].2 b[c[k].1.toNat] t = c[k].2.take (min (max t 0) (c[k].2.length : Int)).toNat ++ b[c[k].1.toNat].drop (min (min (max t 0) (c[k].2.length : Int)) (b[c[k].1.toNat].length : Int)).toNat := rfl
      rw [drop_get h, pCrash, hget]
      by_cases hk2 : k < keep.length
      · rw [get_t hk2]
        cases hv : keep[k]
        · cases tn
          · simp (disch := omega) only [dec_t, cond_true, cond_false, gd_true, Bool.not_false, Bool.and_self, Int.toNat_natCast, get_t, Option.bind_some, bind_id, nc1, wi_of, List.length_take, List.length_drop, hv, mmx, List.drop_zero, List.take_length]
            rw [← et, hrt _ (by simp) (set_short hb ht)]
            simp
          · simp (disch := omega) only [dec_t, cond_true, cond_false, gd_true, Bool.not_true, Bool.and_self, Int.toNat_natCast, get_t, Option.bind_some, bind_id, nc1, wi_of, List.length_take, List.length_drop, hv]
            rw [hrt _ rfl hb]
            simp
        · cases tn
          · simp (disch := omega) only [dec_t, cond_true, gd_true, Bool.not_false, Bool.and_self, Int.toNat_natCast, get_t, Option.bind_some, bind_id, nc1, wi_of, List.length_take, List.length_drop, hv]
            rw [hrf _ (by simp) (set_short hb h3)]
            simp
          · simp (disch := omega) only [dec_t, cond_true, cond_false, gd_true, Bool.not_true, Bool.and_self, Int.toNat_natCast, get_t, Option.bind_some, bind_id, nc1, wi_of, List.length_take, List.length_drop, hv]
            rw [hrt _ (by simp) (set_short hb h3)]
            simp
      · rw [show keep[k]? = none from List.getElem?_eq_none (by omega)]
        cases tn
        · simp (disch := omega) only [dec_t, dec_f, cond_true, cond_false, gd_true, Bool.not_false, Bool.and_self, Int.toNat_natCast, get_t, Option.bind_some, bind_id, nc1, wi_of, List.length_take, List.length_drop, mmx, List.drop_zero, List.take_length]
          rw [← et, hrt _ (by simp) (set_short hb ht)]
          simp
        · simp (disch := omega) only [dec_t, dec_f, cond_true, cond_false, gd_true, Bool.not_true, Bool.and_self, Int.toNat_natCast, get_t, Option.bind_some, bind_id, nc1, wi_of, List.length_take, List.length_drop]
          rw [hrt _ rfl hb]
          simp
    · simp (disch := omega) only [dec_t, dec_f, cond_false, gd_true, Bool.and_self, Int.toNat_natCast, bind_id, nc1, wi_of, List.length_take, List.length_drop, List.drop_of_length_le, pCrash]
def dStep (d : DiskT) (a : ActT) : DiskT × Int :=
  if a.1 = 1 ∨ a.1 = 6 then
    if 0 ≤ a.2.1 ∧ a.2.1 ≤ (d.1.length : Int) - 1 then
    if 200 < a.2.2.1.length then (d, 2) else
    if a.1 = 6 then ((d.1.set a.2.1.toNat a.2.2.1, d.2.1, d.2.2), 0) else
    if d.2.1.length = 4096 then (d, 7) else ((d.1, d.2.1 ++ [(a.2.1, a.2.2.1)], d.2.2), 0)
    else (d, 4)
  else if a.1 = 2 then ((pSync d.1 d.2.1, [], d.2.2), 0)
  else if a.1 = 3 then ((pCrash a.2.2.2.1 a.2.2.2.2 false 0 d.2.1 d.1, [], d.2.2), 0)
  else if a.1 = 4 then ((d.1, d.2.1, d.1), 0)
  else if a.1 = 5 then (if d.2.2.length = 0 then (d, 5) else ((d.2.2, [], d.2.2), 0))
  else (d, 3)
theorem dStep_ok {d : DiskT} (h : OkD d) (a : ActT) : OkD (dStep d a).1 := by
  unfold dStep
  split
  · split
    · rename_i hat
      split
      · exact h
      · rename_i hl
        split
        · exact ⟨by simpa using h.b1, by simpa using h.b2, set_short h.b3 (by omega), h.c1, by simpa using h.c2, by simpa using h.s1, h.s2⟩
        · split
          · exact h
          · refine ⟨h.b1, h.b2, h.b3, by have := h.c1; simp; omega, fun p hp => ?_, h.s1, h.s2⟩
            rcases List.mem_append.1 hp with hp | hp
            · exact h.c2 p hp
            · simp only [List.mem_singleton] at hp
              subst hp
              exact ⟨by omega, by dsimp only; omega, by dsimp only; omega⟩
    · exact h
  · split
    · exact ⟨by rw [pSync_length]; exact h.b1, by rw [pSync_length]; exact h.b2, pSync_short _ _ h.b3 fun p hp => (h.c2 p hp).2.2, by simp, by simp, by rw [pSync_length]; exact h.s1, h.s2⟩
    · split
      · exact ⟨by rw [pCrash_length]; exact h.b1, by rw [pCrash_length]; exact h.b2, pCrash_short _ _ _ _ _ _ h.b3 fun p hp => (h.c2 p hp).2.2, by simp, by simp, by rw [pCrash_length]; exact h.s1, h.s2⟩
      · split
        · exact ⟨h.b1, h.b2, h.b3, h.c1, h.c2, .inr rfl, h.b3⟩
        · split
          · split
            · exact h
            · rename_i hs
              have e : d.2.2.length = d.1.length := by
                rcases h.s1 with e | e
                · rw [e] at hs; exact absurd rfl hs
                · exact e
              exact ⟨by rw [e]; exact h.b1, by rw [e]; exact h.b2, h.s2, by simp, by simp, .inr rfl, h.s2⟩
          · exact h
theorem placeCode_eq (N : Nat) (d : DiskT) (a : ActT) (h : d.1.length ≤ 2000000) (ha : a.2.2.1.length ≤ 2000000) : g_aj N d a = some (if 0 ≤ a.2.1 ∧ a.2.1 ≤ (d.1.length : Int) - 1 then if 200 < a.2.2.1.length then 2 else 0 else 4) := by
  unfold g_aj g_ag g_be
  simp (disch := omega) only [dWithin, Option.bind_some, bind_id, wi_of]
  by_cases h1 : 0 ≤ a.2.1
  · by_cases h2 : a.2.1 ≤ (d.1.length : Int) - 1
    · by_cases h3 : 200 < a.2.2.1.length
      · simp (disch := omega) only [dec_f, decide_true, cond_true, cond_false, Bool.not_true, Bool.not_false, Bool.and_self, if_pos, h1, h2, h3, and_self]
        simp
      · simp (disch := omega) only [dec_t, decide_true, cond_false, Bool.not_true, Bool.and_self, h1, h2, h3, and_self]
        simp
    · simp (disch := omega) only [decide_true, decide_false, cond_true, Bool.not_false, Bool.true_and, h1, h2]
      simp
  · simp (disch := omega) only [dec_t, decide_false, cond_true, Bool.not_false, Bool.and_true, h1]
    simp
theorem act_eq {N : Nat} (hN : 18446744073709551616 ≤ N) {d : DiskT} (h : OkD d) (a : ActT) (ha : a.2.2.1.length ≤ 2000000) (hk : a.2.2.2.1.length ≤ 2000000) : g_ae N d a = some (dStep d a) := by
  obtain ⟨b, c, s⟩ := d
  obtain ⟨k, at_, dt, kp, t⟩ := a
  have h1 := h.b1; have h2 := h.b2; have h3 := h.c1; have h4 := h.s3
  dsimp only at h1 h2 h3 h4 ha hk
  have eS : g_al N (b, c, s) = some (pSync b c, [], s) := by
    unfold g_al
    have := sync_l1 N N 0 c b s (by omega) (by omega) (by omega) (by omega) fun p hp => ⟨(h.c2 p hp).1, (h.c2 p hp).2.1⟩
    simp only [Int.natCast_zero, List.drop_zero] at this
    simp only [this, Option.bind_some]
  have eC : g_af N (b, c, s) kp t = some (pCrash kp t false 0 c b, [], s) := by
    unfold g_af
    have := crash_l2 N kp t hk N 0 false c b s (by omega) (by omega) (by omega) (by omega) h.b3 h.c2
    simp only [Int.natCast_zero, List.drop_zero] at this
    simp only [this, Option.bind_some]
  unfold g_ae dStep
  dsimp only
  simp only [placeCode_eq N (b, c, s) (k, at_, dt, kp, t) (by dsimp only; omega) (by dsimp only; omega), eS, eC, cloneS N b (by omega), cloneS N s (by omega), Option.bind_some]
  by_cases e1 : k = 1
  · subst e1
    rw [if_pos (show (1 : Int) = 1 ∨ (1 : Int) = 6 from .inl rfl), if_neg (show ¬ (1 : Int) = 6 by omega)]
    by_cases p1 : 0 ≤ at_ ∧ at_ ≤ (b.length : Int) - 1
    · by_cases p2 : 200 < dt.length
      · simp (disch := omega) only [if_pos p1, if_pos p2, dec_t, cond_true, cond_false, gd_true, room_t, beq_ti, beq_fi, bne_ti, List.length_cons, List.length_nil]
      · by_cases p3 : c.length = 4096
        · simp (disch := omega) only [if_pos p1, if_neg p2, if_pos p3, dec_t, cond_true, cond_false, gd_true, room_t, beq_ti, beq_fi, bne_fi, List.length_cons, List.length_nil]
        · simp (disch := omega) only [if_pos p1, if_neg p2, if_neg p3, dec_t, cond_true, cond_false, gd_true, room_t, beq_ti, beq_fi, bne_fi, List.length_cons, List.length_nil]
    · simp (disch := omega) only [if_neg p1, cond_true, cond_false, gd_true, room_t, beq_ti, beq_fi, bne_ti, List.length_cons, List.length_nil]
  · by_cases e6 : k = 6
    · subst e6
      rw [if_pos (show (6 : Int) = 1 ∨ (6 : Int) = 6 from .inr rfl), if_pos (show (6 : Int) = 6 from rfl)]
      by_cases p1 : 0 ≤ at_ ∧ at_ ≤ (b.length : Int) - 1
      · have hb : at_.toNat < b.length := by omega
        by_cases p2 : 200 < dt.length
        · simp (disch := omega) only [if_pos p1, if_pos p2, dec_t, cond_true, cond_false, gd_true, room_t, beq_ti, beq_fi, bne_ti, List.length_cons, List.length_nil]
        · simp (disch := omega) only [if_pos p1, if_neg p2, dec_t, cond_true, cond_false, gd_true, get_t, Option.bind_some, room_t, beq_ti, beq_fi, bne_fi, List.length_cons, List.length_nil]
      · simp (disch := omega) only [if_neg p1, cond_true, cond_false, gd_true, room_t, beq_ti, beq_fi, bne_ti, List.length_cons, List.length_nil]
    · rw [if_neg (show ¬ (k = 1 ∨ k = 6) by omega)]
      simp (disch := omega) only [cond_false, gd_true, room_t, beq_fi, List.length_cons, List.length_nil]
      by_cases e2 : k = 2
      · simp (disch := omega) only [if_pos e2, cond_true, cond_false, beq_ti, beq_fi]
      · simp (disch := omega) only [if_neg e2, cond_false, beq_fi]
        by_cases e3 : k = 3
        · simp (disch := omega) only [if_pos e3, cond_true, cond_false, beq_ti, beq_fi]
        · simp (disch := omega) only [if_neg e3, cond_false, beq_fi]
          by_cases e4 : k = 4
          · simp (disch := omega) only [if_pos e4, cond_true, cond_false, beq_ti, beq_fi]
          · simp (disch := omega) only [if_neg e4, cond_false, beq_fi]
            by_cases e5 : k = 5
            · simp (disch := omega) only [if_pos e5, cond_true, beq_ti]
              by_cases p : s.length = 0
              · simp (disch := omega) only [if_pos p, cond_true, beq_ti]
              · simp (disch := omega) only [if_neg p, cond_false, beq_fi]
            · simp (disch := omega) only [if_neg e5, cond_false, beq_fi]
end Go.Vm
namespace Go.Vm
theorem isLongS_eq {N : Nat} (hN : 18446744073709551616 ≤ N) (t : List UInt8) : g_bg N [t] = some (decide (65536 < t.length)) := by
  have key : ∀ n c0 c1 m, g_dg.l2 N n c0 c1 m = idxL (g_bh N) n c0 c1 m := by
    intro n c0 c1
    induction n with
    | zero => intro m; rfl
    | succ n ih => intro m; simp only [g_dg.l2, idxL, ih]
  unfold g_bg g_dd g_dg
  rw [key, contains_eq (p := g_bh N) (q := fun r => decide ((r.length : Int) > 65536)) [t] (fun x _ => rfl) (by simp; omega) (by simp), bind_id]
  simp only [List.any_cons, List.any_nil, Bool.or_false, Option.some.injEq]
  by_cases h : 65536 < t.length
  · rw [dec_t h, dec_t (by omega)]
  · rw [dec_f h, dec_f (by omega)]
end Go.Vm
namespace Go.Vm
def numB (l : List UInt8) : Nat := l.foldl (fun n c => n * 256 + c.toNat) 0
theorem or_byte (n : Nat) (c : UInt8) (h : n < 36028797018963968) : wi (orB 64 ((n : Int) * 2 ^ 8) (c.toNat : Int)) = ((n * 256 + c.toNat : Nat) : Int) := by
  have hc := c.toNat_lt
  rw [show ((n : Int) * 2 ^ 8) = ((n * 256 : Nat) : Int) from rfl]
  unfold orB
  have e2 : (BitVec.ofInt 64 ((n * 256 : Nat) : Int) ||| BitVec.ofInt 64 (c.toNat : Int)).toNat = n * 256 + c.toNat := by
    rw [BitVec.toNat_or]
    simp only [BitVec.ofInt_natCast, BitVec.toNat_ofNat]
    rw [Nat.mod_eq_of_lt (by omega), Nat.mod_eq_of_lt (by omega), Nat.mul_comm n 256]
    exact (Nat.two_pow_add_eq_or_of_lt (i := 8) hc n).symm
  rw [e2, wi_of] <;> omega
theorem number_l3 (N : Nat) : ∀ (n : Nat) (m k : Nat) (b : List UInt8) (f : Bool) (c : List UInt8), c.length ≤ k + n - 1 → 0 < n → k ≤ c.length → c.length ≤ 7 → m < 256 ^ k →
    g_bk.l3 N n (c.length : Int) (m : Int) (k : Int) b f c = some ((((c.drop k).foldl (fun n c => n * 256 + c.toNat) m : Nat) : Int), b, f)
  | 0, _, _, _, _, _, _, h, _, _, _ => by omega
  | n + 1, m, k, b, f, c, hn, _, hk, hc, hm => by
    unfold g_bk.l3
    by_cases h : k < c.length
    · have hm2 : m < 36028797018963968 := Nat.lt_of_lt_of_le hm (Nat.le_trans (Nat.pow_le_pow_right (by omega) (show k ≤ 6 by omega)) (by decide))
      simp (disch := omega) only [dec_t, cond_true, gd_true, Int.toNat_natCast, get_t, Option.bind_some, bind_id, nc1, wi_u8, wi_of, or_byte m _ hm2]
      rw [number_l3 N n _ (k + 1) b f c (by omega) (by omega) (by omega) hc (by
        have := c[k].toNat_lt
        rw [Nat.pow_succ]; omega), drop_get h]
      rfl
    · simp (disch := omega) only [dec_t, dec_f, cond_false, gd_true, Int.toNat_natCast, bind_id, nc1, wi_u8, wi_of, List.drop_of_length_le, List.foldl_nil]
def tkR (r : List UInt8 × Bool) (n : Nat) : (List UInt8 × Bool) × List UInt8 := if r.1.length < n then ((r.1, true), []) else ((r.1.drop n, r.2), r.1.take n)
theorem take_eq (N : Nat) (r : List UInt8 × Bool) (n : Nat) : g_bl N r (n : Int) = some (tkR r n) := by
  unfold g_bl tkR
  by_cases h : r.1.length < n
  · simp (disch := omega) only [dec_t, dec_f, cond_true, gd_true, Bool.and_true, Bool.true_and, Int.toNat_natCast, h, if_true]
  · simp (disch := omega) only [dec_t, dec_f, cond_false, gd_true, Bool.and_self, Int.toNat_natCast, h, if_false, List.take_length, List.drop_zero]
theorem number_eq {N : Nat} (hN : 18446744073709551616 ≤ N) (r : List UInt8 × Bool) (n : Nat) (hn : n ≤ 7) : g_bk N r (n : Int) = some ((tkR r n).1, ((numB (tkR r n).2 : Nat) : Int)) := by
  unfold g_bk
  rw [take_eq, Option.bind_some]
  have hl : (tkR r n).2.length ≤ 7 := by
    unfold tkR; split
    · simp
    · simp; omega
  rw [show (0 : Int) = ((0 : Nat) : Int) from rfl, number_l3 N N 0 0 _ _ _ (by omega) (by omega) (by omega) hl (by simp)]
  rfl
theorem within_eq (N : Nat) (x a b : Int) : g_bz N x a b = some (decide (a ≤ x) && decide (x ≤ b)) := by
  unfold g_bz
  by_cases h : a ≤ x <;> simp [h]
theorem l01In_eq (N : Nat) (x a b : Int) : g_dp N x a b = some (decide (a ≤ x) && decide (x ≤ b)) := by
  unfold g_dp
  by_cases h : a ≤ x <;> simp [h]
end Go.Vm
namespace Go.Vm
end Go.Vm
namespace Go.Vm
theorem l06Number_l3 (N : Nat) : ∀ (n : Nat) (m k : Nat) (c : List UInt8), c.length ≤ k + n - 1 → 0 < n → k ≤ c.length → c.length ≤ 7 → m < 256 ^ k →
    g_et.l3 N n c (m : Int) (k : Int) = some (((c.drop k).foldl (fun n c => n * 256 + c.toNat) m : Nat) : Int)
  | 0, _, _, _, _, h, _, _, _ => by omega
  | n + 1, m, k, c, hn, _, hk, hc, hm => by
    unfold g_et.l3
    by_cases h : k < c.length
    · have hm2 : m < 36028797018963968 := Nat.lt_of_lt_of_le hm (Nat.le_trans (Nat.pow_le_pow_right (by omega) (show k ≤ 6 by omega)) (by decide))
      have hc' := c[k].toNat_lt
      simp (disch := omega) only [dec_t, cond_true, gd_true, Int.toNat_natCast, get_t, Option.bind_some, bind_id, nc1, wi_u8, wi_of]
      rw [show ((m : Int) * 256 + (c[k].toNat : Int)) = ((m * 256 + c[k].toNat : Nat) : Int) by omega, l06Number_l3 N n _ (k + 1) c (by omega) (by omega) (by omega) hc (by rw [Nat.pow_succ]; omega), drop_get h]
      rfl
    · simp (disch := omega) only [dec_t, dec_f, cond_false, gd_true, Int.toNat_natCast, bind_id, nc1, wi_u8, wi_of, List.drop_of_length_le, List.foldl_nil]
theorem l06Number_eq {N : Nat} (hN : 18446744073709551616 ≤ N) (c : List UInt8) (hc : c.length ≤ 7) : g_et N c = some ((numB c : Nat) : Int) := by
  unfold g_et
  have := l06Number_l3 N N 0 0 c (by omega) (by omega) (by omega) hc (by simp)
  simp only [Int.natCast_zero] at this
  rw [this]; rfl
end Go.Vm
namespace Go.Vm
end Go.Vm
namespace Go.Vm
def slotW : List UInt8 := [115, 108, 111, 116]
def nonceF (place version : Int) : List UInt8 := bytesN 4 0 ++ bytesN 4 place ++ bytesN 4 version
theorem nonceF_len (p v : Int) : (nonceF p v).length = 12 := by simp [nonceF, bytesN_length]
theorem iNonce (p v : Int) : g_br N0 p v = some (nonceF p v) := by
  have h0 := bytesN_length 4 0; have h1 := bytesN_length 4 p; have h2 := bytesN_length 4 v
  unfold g_br nonceF
  simp (disch := omega) only [dec_t, gd_true, Option.bind_some, List.length_append, iFour]
theorem sNonce (p v : Int) : g_eh N0 p v = some (nonceF p v) := by
  have h0 := bytesN_length 4 0; have h1 := bytesN_length 4 p; have h2 := bytesN_length 4 v
  unfold g_eh nonceF
  simp (disch := omega) only [dec_t, gd_true, Option.bind_some, List.length_append, sFourB]
def slotOK (e : Int) (d : List UInt8) : Bool := decide (1 ≤ e) && decide (e ≤ 4294967295) && decide (d.length ≤ 170)
theorem iSlotOK (N : Nat) (e : Int) (d : List UInt8) : g_an N (e, d) = some (slotOK e d) := by
  unfold g_an slotOK
  rw [within_eq, Option.bind_some]
  cases (decide (1 ≤ e) && decide (e ≤ 4294967295))
  · rfl
  · simp only [cond_true, Bool.true_and]
    by_cases h : d.length ≤ 170
    · rw [dec_t h, dec_t (by omega)]
    · rw [dec_f h, dec_f (by omega)]
theorem sSlotOK (N : Nat) (e : Int) (d : List UInt8) : g_dj N (e, d) = some (slotOK e d) := by
  unfold g_dj slotOK
  rw [l01In_eq, Option.bind_some]
  cases (decide (1 ≤ e) && decide (e ≤ 4294967295))
  · rfl
  · simp only [cond_true, Bool.true_and]
    by_cases h : d.length ≤ 170
    · rw [dec_t h, dec_t (by omega)]
    · rw [dec_f h, dec_f (by omega)]
def rdSlot (key : List UInt8) (place : Int) (b : List UInt8) : Option (Int × List UInt8) :=
  if b.length < 20 then none else
    if (unsF key (nonceF place ((numB (b.take 4) : Nat) : Int)) slotW (b.drop 4)).2 = true then
      if slotOK ((numB (b.take 4) : Nat) : Int) (unsF key (nonceF place ((numB (b.take 4) : Nat) : Int)) slotW (b.drop 4)).1 = true then some (((numB (b.take 4) : Nat) : Int), (unsF key (nonceF place ((numB (b.take 4) : Nat) : Int)) slotW (b.drop 4)).1) else none
    else none
theorem unsF_short {key nonce extra b : List UInt8} (h : b.length < 16) : unsF key nonce extra b = ([], false) := by unfold unsF; rw [if_pos h]
theorem iReadSlot1 {key : List UInt8} {place : Int} {b : List UInt8} (hk : key.length ≤ 1000000) (hb : b.length ≤ 1000000000) : ∃ s ok, g_bj N0 key place b = some (s, ok) ∧ ((ok = true ∧ rdSlot key place b = some s) ∨ (ok = false ∧ rdSlot key place b = none)) := by
  unfold g_bj rdSlot
  have hn := number_eq hN0 (b, false) 4 (by omega)
  rw [show ((4 : Nat) : Int) = 4 from rfl] at hn
  rw [hn, Option.bind_some]
  have hsl : ([115, 108, 111, 116] : List UInt8) = slotW := rfl
  rw [hsl]
  by_cases h4 : b.length < 4
  · have ht : tkR (b, false) 4 = ((b, true), []) := by unfold tkR; rw [if_pos h4]
    rw [ht]
    dsimp only
    rw [if_pos (show b.length < 20 by omega), iNonce, Option.bind_some, iUnseal hk (nonceF_len _ _) (by simp [slotW]) (by omega), unsF_short (by omega)]
    exact ⟨_, false, rfl, .inr ⟨rfl, rfl⟩⟩
  · have ht : tkR (b, false) 4 = ((b.drop 4, false), b.take 4) := by unfold tkR; rw [if_neg h4]
    rw [ht]
    dsimp only
    rw [iNonce, Option.bind_some, iUnseal hk (nonceF_len _ _) (by simp [slotW]) (by simp; omega), Option.bind_some]
    by_cases h20 : b.length < 20
    · rw [if_pos h20, unsF_short (by simp; omega)]
      exact ⟨_, false, rfl, .inr ⟨rfl, rfl⟩⟩
    · rw [if_neg h20]
      cases hu : (unsF key (nonceF place ((numB (b.take 4) : Nat) : Int)) slotW (b.drop 4)).2
      · exact ⟨_, false, rfl, .inr ⟨rfl, rfl⟩⟩
      · rw [if_pos rfl]
        simp only [cond_true, Bool.not_false, iSlotOK, Option.bind_some]
        cases hs : slotOK ((numB (b.take 4) : Nat) : Int) (unsF key (nonceF place ((numB (b.take 4) : Nat) : Int)) slotW (b.drop 4)).1
        · exact ⟨_, false, rfl, .inr ⟨rfl, rfl⟩⟩
        · exact ⟨_, true, rfl, .inl ⟨rfl, rfl⟩⟩
theorem sReadSlot1 {key : List UInt8} {place : Int} {b : List UInt8} (hk : key.length ≤ 1000000) (hb : b.length ≤ 1000000000) : g_ew N0 key place b = some (match rdSlot key place b with | some s => (s, true) | none => ((0, []), false)) := by
  unfold g_ew rdSlot
  have hsl : ([115, 108, 111, 116] : List UInt8) = slotW := rfl
  rw [hsl]
  by_cases h20 : b.length < 20
  · rw [if_pos h20]; simp (disch := omega) only [dec_t, cond_true, Bool.and_true, Bool.true_and]
  · rw [if_neg h20]
    have hn := l06Number_eq hN0 (b.take 4) (by simp; omega)
    have hu := sOpen (key := key) (nonce := nonceF place ((numB (b.take 4) : Nat) : Int)) (extra := slotW) (b := b.drop 4) hk (nonceF_len _ _) (by simp [slotW]) (by simp; omega)
    cases hc : (unsF key (nonceF place ((numB (b.take 4) : Nat) : Int)) slotW (b.drop 4)).2
    · simp (disch := omega) only [dec_t, dec_f, cond_true, cond_false, gd_true, Bool.not_false, Bool.and_self, Option.bind_some, List.drop_zero, List.take_length, hn, sNonce, hu, hc, if_false, Bool.false_eq_true]
    · cases hs : slotOK ((numB (b.take 4) : Nat) : Int) (unsF key (nonceF place ((numB (b.take 4) : Nat) : Int)) slotW (b.drop 4)).1
      · simp (disch := omega) only [dec_t, dec_f, cond_true, cond_false, gd_true, Bool.not_true, Bool.not_false, Bool.and_self, Option.bind_some, List.drop_zero, List.take_length, hn, sNonce, hu, hc, if_true, sSlotOK, hs, if_false, Bool.false_eq_true]
      · simp (disch := omega) only [dec_t, dec_f, cond_false, gd_true, Bool.not_true, Bool.and_self, Option.bind_some, List.drop_zero, List.take_length, hn, sNonce, hu, hc, if_true, sSlotOK, hs]
end Go.Vm
namespace Go.Vm
def rdF (c : List (Int × List UInt8)) (at_ : Int) : Nat → Option (List UInt8)
  | 0 => none
  | k + 1 => match c[k]? with
    | some p => if p.1 = at_ then some p.2 else rdF c at_ k
    | none => rdF c at_ k
def rdD (d : DiskT) (at_ : Int) : List UInt8 := match rdF d.2.1 at_ d.2.1.length with | some v => v | none => d.1[at_.toNat]?.getD []
theorem read_g2 (N : Nat) (xs : List (Int × List UInt8)) (m0 : List (List UInt8)) (m1 : List (Int × List UInt8)) (m2 : List (List UInt8)) (at_ : Int) (m4 : List UInt8) : ∀ k, k ≤ xs.length →
    g_ak.g2 N (backsF xs k) m0 m1 m2 at_ m4 = some (match rdF xs at_ k with | some v => .inr v | none => .inl (m0, m1, m2, at_, m4))
  | 0, _ => rfl
  | k + 1, hk => by
    have h : k < xs.length := by omega
    have e : backsF xs (k + 1) = ((k : Int), xs[k]) :: backsF xs k := by simp [backsF, h]
    rw [e, rdF, get_t h]
    simp only [g_ak.g2, bind_id]
    by_cases q : xs[k].1 = at_
    · rw [beq_ti q, cond_true, if_pos q]
    · rw [beq_fi q, cond_false, if_neg q]
      exact read_g2 N xs m0 m1 m2 at_ m4 k (by omega)
theorem read_eq (N : Nat) (b : List (List UInt8)) (c : List (Int × List UInt8)) (s : List (List UInt8)) (at_ : Int) (h1 : 0 ≤ at_) (h2 : at_ < (b.length : Int)) : g_ak N (b, c, s) at_ = some (rdD (b, c, s) at_) := by
  have e := read_g2 N c b c s at_ [] c.length (Nat.le_refl _)
  unfold g_ak rdD backs
  dsimp only
  rw [e]
  have hlt : at_.toNat < b.length := by omega
  cases rdF c at_ c.length with
  | some v => simp [alt]
  | none => simp (disch := omega) only [dec_t, gd_true, alt_inl, get_t, Option.bind_some, bind_id]; rfl
end Go.Vm
namespace Go.Vm
def goodP (n : Nat) (p : Int × List UInt8) : Bool := decide (0 ≤ p.1) && decide (p.1 ≤ (n : Int) - 1) && decide (p.2.length ≤ 200)
def okDB (d : DiskT) : Bool := decide (1 ≤ d.1.length) && decide (d.1.length ≤ 64) && d.1.all (fun x => decide (x.length ≤ 200)) && decide (d.2.1.length ≤ 4096) && d.2.1.all (goodP d.1.length) && (decide (d.2.2.length = 0) || decide (d.2.2.length = d.1.length)) && d.2.2.all (fun x => decide (x.length ≤ 200))
theorem okDB_spec {d : DiskT} (h : okDB d = true) : OkD d := by
  unfold okDB at h
  simp only [Bool.and_eq_true, Bool.or_eq_true, decide_eq_true_eq, List.all_eq_true, goodP] at h
  obtain ⟨⟨⟨⟨⟨⟨h1, h2⟩, h3⟩, h4⟩, h5⟩, h6⟩, h7⟩ := h
  refine ⟨h1, h2, h3, h4, fun p hp => ?_, ?_, h7⟩
  · obtain ⟨⟨q1, q2⟩, q3⟩ := h5 p hp
    exact ⟨q1, by omega, q3⟩
  · rcases h6 with q | q
    · left; exact List.length_eq_zero_iff.1 q
    · exact .inr q
theorem any_not {α : Type} (q : α → Bool) (l : List α) : (!(l.any fun x => !q x)) = l.all q := by
  induction l with
  | nil => rfl
  | cons x l ih => rw [List.any_cons, List.all_cons, ← ih]; cases q x <;> simp
theorem allBlocks_any {N : Nat} (hN : 18446744073709551616 ≤ N) (l : List (List UInt8)) (hl : l.length ≤ 140737488355328) : g_as N l = some (l.all fun x => decide (x.length ≤ 200)) := by
  have hp : ∀ a ∈ l, g_ar N a = some ((fun x => !decide (x.length ≤ 200)) a) := fun a ha => by
    unfold g_ar g_be
    by_cases h : a.length ≤ 200
    · simp (disch := omega) only [dec_t, Bool.not_true, Option.bind_some]
    · simp (disch := omega) only [dec_f, Bool.not_false, Option.bind_some]
  have key : ∀ n c0 c1 m, g_df.l2 N n c0 c1 m = idxL (g_ar N) n c0 c1 m := by
    intro n c0 c1
    induction n with
    | zero => intro m; rfl
    | succ n ih => intro m; simp only [g_df.l2, idxL, ih]
  unfold g_as g_dc g_df
  rw [key, contains_eq (p := g_ar N) (q := fun x => !decide (x.length ≤ 200)) l hp (by omega) (by omega)]
  simp only [Option.bind_some, any_not]
theorem pend_any (N : Nat) (d : DiskT) (hb : d.1.length ≤ 140737488355328) : ∀ (n k : Nat) (c : List (Int × List UInt8)), c.length ≤ k + n - 1 → 0 < n → k ≤ c.length → c.length ≤ 140737488355328 →
    g_de.l2 N n c (c.length : Int) d (k : Int) = some (match idxF (fun p => !goodP d.1.length p) (c.drop k) k with | .inl y => .inl (d, y) | .inr _ => .inr d)
  | 0, _, _, _, h, _, _ => by omega
  | n + 1, k, c, hn, _, hk, hl => by
    unfold g_de.l2
    by_cases h : k < c.length
    · have e : g_ap N c[k] d = some (!goodP d.1.length c[k]) := by
        unfold g_ap g_ad g_ag g_be goodP
        simp (disch := omega) only [dWithin, Option.bind_some, wi_of]
        by_cases q1 : 0 ≤ c[k].1
        · by_cases q2 : c[k].1 ≤ (d.1.length : Int) - 1
          · by_cases q3 : c[k].2.length ≤ 200
            · simp (disch := omega) only [dec_t, cond_true, Bool.not_true, Bool.and_self, Option.bind_some]
            · simp (disch := omega) only [dec_t, dec_f, cond_true, Bool.not_false, Bool.true_and, Bool.and_self, Option.bind_some]
          · simp (disch := omega) only [dec_t, dec_f, cond_false, Bool.not_false, Option.bind_some, Bool.and_false, Bool.false_and]
        · simp (disch := omega) only [dec_t, dec_f, cond_false, Bool.not_false, Bool.and_true, Option.bind_some, Bool.false_and]
      rw [drop_get h, idxF]
      simp (disch := omega) only [dec_t, cond_true, gd_true, Int.toNat_natCast, get_t, Option.bind_some, bind_id, nc1, wi_of, e]
      cases q : goodP d.1.length c[k]
      · rfl
      · exact pend_any N d hb n (k + 1) c (by omega) (by omega) (by omega) hl
    · simp (disch := omega) only [dec_t, dec_f, cond_false, gd_true, Int.toNat_natCast, bind_id, nc1, wi_of, List.drop_of_length_le, idxF]
theorem iDiskOK_any {N : Nat} (hN : 18446744073709551616 ≤ N) (d : DiskT) (h1 : d.1.length ≤ 140737488355328) (h2 : d.2.1.length ≤ 140737488355328) (h3 : d.2.2.length ≤ 140737488355328) : g_ac N d = some (okDB d) := by
  have e := pend_any N d h1 N 0 d.2.1 (by omega) (by omega) (by omega) h2
  simp only [Int.natCast_zero, List.drop_zero] at e
  have e2 : g_aq N d.2.1 d = some (d.2.1.all (goodP d.1.length)) := by
    unfold g_aq g_db g_de
    rw [e, ← any_not, ← idxF_any _ d.2.1 0]
    cases idxF (fun p => !goodP d.1.length p) d.2.1 0 <;> rfl
  unfold g_ac g_bf okDB
  simp only [dWithin, allBlocks_any hN d.1 h1, allBlocks_any hN d.2.2 h3, e2, Option.bind_some]
  by_cases q1 : 1 ≤ d.1.length
  · by_cases q2 : d.1.length ≤ 64
    · simp (disch := omega) only [dec_t, cond_true, Bool.true_and, Bool.and_self]
      cases d.1.all (fun x => decide (x.length ≤ 200))
      · simp only [cond_false, Bool.false_and]
      · by_cases q4 : d.2.1.length ≤ 4096
        · simp (disch := omega) only [dec_t, dec_f, cond_true, Bool.not_false, Bool.true_and, Bool.and_self]
          cases d.2.1.all (goodP d.1.length)
          · simp only [cond_false, Bool.false_and]
          · by_cases q6 : d.2.2.length = 0
            · simp (disch := omega) only [dec_t, dec_f, cond_true, cond_false, Bool.true_and, Bool.and_self, beq_ti, beq_fi, Bool.true_or]
            · by_cases q7 : d.2.2.length = d.1.length
              · simp (disch := omega) only [dec_t, dec_f, cond_true, cond_false, Bool.true_and, Bool.and_self, beq_ti, beq_fi, Bool.false_or]
              · simp (disch := omega) only [dec_f, cond_true, cond_false, Bool.true_and, beq_fi, Bool.or_self, Bool.false_and]
        · simp (disch := omega) only [dec_t, dec_f, cond_true, cond_false, Bool.not_true, Bool.true_and, Bool.false_and]
    · simp (disch := omega) only [dec_t, dec_f, cond_false, Bool.and_false, Bool.false_and]
  · simp (disch := omega) only [dec_t, dec_f, cond_false, Bool.and_true, Bool.false_and]
end Go.Vm
namespace Go.Vm
theorem markText_some {N : Nat} (hN : 18446744073709551616 ≤ N) (k : Nat) (hk : k ≤ 9000000000000000000) : ∃ t, g_cm N (k : Int) = some t := by
  unfold g_cm
  by_cases h : k = 0
  · subst h; exact ⟨_, by simp; rfl⟩
  · have key : ∀ (n k : Nat) (l : List UInt8), k < 10 ^ 20 → 20 < n → k ≤ 9223372036854775000 → l.length + 20 ≤ 9223372036854775807 → ∃ t, g_cm.l4 N n (k : Int) l = some t ∧ t.length ≤ l.length + 20 := by
      suffices H : ∀ (d n k : Nat) (l : List UInt8), k < 10 ^ d → d < n → k ≤ 9223372036854775000 → l.length + d ≤ 9223372036854775807 → ∃ t, g_cm.l4 N n (k : Int) l = some t ∧ t.length ≤ l.length + d from fun n k l h1 h2 h3 h4 => H 20 n k l h1 h2 h3 h4
      intro d
      induction d with
      | zero =>
        intro n k l h1 h2 h3 h4
        have : k = 0 := by simpa using h1
        subst this
        cases n with
        | zero => omega
        | succ n => exact ⟨l, by unfold g_cm.l4; simp, by omega⟩
      | succ d ih =>
        intro n k l h1 h2 h3 h4
        cases n with
        | zero => omega
        | succ n =>
          unfold g_cm.l4
          by_cases h : k = 0
          · subst h; exact ⟨l, by simp, by omega⟩
          · have e2 : (k : Int).tdiv 10 = ((k / 10 : Nat) : Int) := rfl
            have h10 : k / 10 < 10 ^ d := by rw [Nat.pow_succ] at h1; omega
            simp (disch := omega) only [dec_t, cond_true, gd_true, bind_id, wi_of, List.length_cons, List.length_nil, e2, List.singleton_append]
            obtain ⟨t, h5, h6⟩ := ih n (k / 10) (wb (wi (48 + (k : Int).tmod 10)) :: l) h10 (by omega) (by omega) (by simp; omega)
            exact ⟨t, h5, by simp at h6; omega⟩
    obtain ⟨t, h1, h2⟩ := key N k [] (by have : (10 : Nat) ^ 20 = 100000000000000000000 := by decide
                                         omega) (by omega) (by omega) (by simp)
    refine ⟨109 :: t, ?_⟩
    simp only [List.length_nil] at h2
    simp (disch := omega) only [dec_t, dec_f, cond_false, gd_true, Option.bind_some, h1, List.singleton_append]
def mtx (N m : Nat) : List UInt8 := (g_cm N (m : Int)).getD []
def szL {α : Type} (p : α → Int → Option Int) : Nat → List α → Int → Int → Option (Int ⊕ Int)
  | 0, _, _, _ => none
  | n + 1, c0, m1, m2 =>
  bif decide (m2 < (c0.length : Int)) then
   gd (decide (0 ≤ m2)) <|
   c0[m2.toNat]?.bind fun e3 =>
   (p e3 m1).bind fun r4 =>
   bif decide (r4 < 0) then
    some (Sum.inl (-1))
   else
   (szL p n c0 r4 (wi (m2 + 1))).bind some
  else
  some (Sum.inr m1)
theorem szL_eq {α : Type} {p : α → Int → Option Int} {Q R : α → Prop} : ∀ (n : Nat) (c : List α) (k : Nat) (left : Int), (∀ x ∈ c, R x → ∀ l : Int, 0 ≤ l → l ≤ 1048576 → ∃ r, p x l = some r ∧ (0 ≤ r → r ≤ l ∧ Q x)) → (∀ x ∈ c, R x) → c.length ≤ k + n - 1 → 0 < n → k ≤ c.length → c.length ≤ 9223372036854775000 → 0 ≤ left → left ≤ 1048576 →
    szL p n c left (k : Int) = some (.inl (-1)) ∨ ∃ m : Int, szL p n c left (k : Int) = some (.inr m) ∧ 0 ≤ m ∧ m ≤ left ∧ ∀ x ∈ c.drop k, Q x
  | 0, _, _, _, _, _, _, h, _, _, _, _ => by omega
  | n + 1, c, k, left, hp, hR, hn, _, hk, hc, h0, hl => by
    unfold szL
    by_cases h : k < c.length
    · obtain ⟨r, e, hr⟩ := hp _ (List.getElem_mem h) (hR _ (List.getElem_mem h)) left h0 hl
      by_cases h3 : r < 0
      · left
        simp (disch := omega) only [dec_t, cond_true, gd_true, Int.toNat_natCast, get_t, Option.bind_some, bind_id, nc1, wi_of, e]
      · obtain ⟨h4, h5⟩ := hr (by omega)
        have := szL_eq n c (k + 1) r hp hR (by omega) (by omega) (by omega) hc (by omega) (by omega)
        rcases this with q | ⟨m, q1, q2, q3, q4⟩
        · left
          simp (disch := omega) only [dec_t, dec_f, cond_true, cond_false, gd_true, Int.toNat_natCast, get_t, Option.bind_some, bind_id, nc1, wi_of, e, q]
        · right
          refine ⟨m, by simp (disch := omega) only [dec_t, dec_f, cond_true, cond_false, gd_true, Int.toNat_natCast, get_t, Option.bind_some, bind_id, nc1, wi_of, e, q1], q2, by omega, fun x hx => ?_⟩
          rw [drop_get h] at hx
          rcases List.mem_cons.1 hx with rfl | hx
          · exact h5
          · exact q4 x hx
    · right
      refine ⟨left, by simp (disch := omega) only [dec_t, dec_f, cond_false, gd_true, Int.toNat_natCast, bind_id, nc1, wi_of], h0, by omega, fun x hx => ?_⟩
      rw [List.drop_of_length_le (by omega)] at hx
      simp at hx
end Go.Vm
namespace Go.Vm
abbrev bdStringS (n : Nat) (x : List (List UInt8)) : Prop := x.length ≤ n ∧ ∀ y ∈ x, (y).length ≤ n
theorem bdStringS_mono {n m : Nat} (hm : n ≤ m) {x : List (List UInt8)} (h : bdStringS n x) : bdStringS m x := ⟨Nat.le_trans h.1 hm, fun y hy => Nat.le_trans (h.2 y hy) hm⟩
abbrev bdPending (n : Nat) (x : Int × List UInt8) : Prop := (x.2).length ≤ n
theorem bdPending_mono {n m : Nat} (hm : n ≤ m) {x : Int × List UInt8} (h : bdPending n x) : bdPending m x := Nat.le_trans h hm
abbrev bdPendingS (n : Nat) (x : List (Int × List UInt8)) : Prop := x.length ≤ n ∧ ∀ y ∈ x, bdPending n y
theorem bdPendingS_mono {n m : Nat} (hm : n ≤ m) {x : List (Int × List UInt8)} (h : bdPendingS n x) : bdPendingS m x := ⟨Nat.le_trans h.1 hm, fun y hy => bdPending_mono hm (h.2 y hy)⟩
abbrev bdDisk (n : Nat) (x : List (List UInt8) × List (Int × List UInt8) × List (List UInt8)) : Prop := bdStringS n x.1 ∧ bdPendingS n x.2.1 ∧ bdStringS n x.2.2
theorem bdDisk_mono {n m : Nat} (hm : n ≤ m) {x : List (List UInt8) × List (Int × List UInt8) × List (List UInt8)} (h : bdDisk n x) : bdDisk m x := ⟨bdStringS_mono hm h.1, bdPendingS_mono hm h.2.1, bdStringS_mono hm h.2.2⟩
theorem toStringS_l (N n : Nat) (c ys : List (List UInt8)) (k : Int) : g_cu.l3 N n c k ys = toL2 some n c k ys := by
  induction n generalizing k ys with
  | zero => rfl
  | succ n ih => simp only [g_cu.l3, toL2, ih, Option.bind_some]
theorem toStringS_eq {N : Nat} (hN : 18446744073709551616 ≤ N) (c : List (List UInt8)) (h : bdStringS 1000000000 c) : g_cu N c = some c := by
  have hl : c.length ≤ 1000000000 := h.1
  unfold g_cu
  simp (disch := omega) only [toStringS_l, dec_t, gd_true, Bool.and_self, Int.toNat_natCast, bind_id, room_t]
  rw [show (0 : Int) = ((0 : Nat) : Int) from rfl, toL2_eq (p := some) (f := id) N c 0 _ (fun _ _ => rfl) (by omega) (by omega) (by omega) (by omega) (by simp)]
  simp
theorem toPending_eq {N : Nat} (hN : 18446744073709551616 ≤ N) (c : Int × List UInt8) (h : bdPending 1000000000 c) : g_cs N c = some c := rfl
theorem toPendingS_l (N n : Nat) (c ys : List (Int × List UInt8)) (k : Int) : g_ct.l3 N n c k ys = toL2 (g_cs N) n c k ys := by
  induction n generalizing k ys with
  | zero => rfl
  | succ n ih => simp only [g_ct.l3, toL2, ih]
theorem toPendingS_eq {N : Nat} (hN : 18446744073709551616 ≤ N) (c : List (Int × List UInt8)) (h : bdPendingS 1000000000 c) : g_ct N c = some c := by
  have hl : c.length ≤ 1000000000 := h.1
  unfold g_ct
  simp (disch := omega) only [toPendingS_l, dec_t, gd_true, Bool.and_self, Int.toNat_natCast, bind_id, room_t]
  rw [show (0 : Int) = ((0 : Nat) : Int) from rfl, toL2_eq (p := (g_cs N)) (f := id) N c 0 _ (fun x hx => toPending_eq hN x (h.2 x hx)) (by omega) (by omega) (by omega) (by omega) (by simp)]
  simp
theorem toDisk_eq {N : Nat} (hN : 18446744073709551616 ≤ N) (c : List (List UInt8) × List (Int × List UInt8) × List (List UInt8)) (h : bdDisk 1000000000 c) : g_cr N c = some c := by
  unfold g_cr
  simp only [toStringS_eq hN c.1 h.1, toPendingS_eq hN c.2.1 h.2.1, toStringS_eq hN c.2.2 h.2.2, Option.bind_some]
theorem szStringS_l (N n : Nat) (c : List (List UInt8)) (m k : Int) : g_cq.l5 N n c m k = szL (fun (e : List UInt8) m => some (wi (m - (e.length : Int)))) n c m k := by
  induction n generalizing m k with
  | zero => rfl
  | succ n ih => simp only [g_cq.l5, szL, ih, Option.bind_some]
theorem szStringS_eq {N : Nat} (hN : 18446744073709551616 ≤ N) (c : List (List UInt8)) (left : Int) (h0 : 0 ≤ left) (hl : left ≤ 1048576) (h : bdStringS 9223372036854775807 c) : ∃ r : Int, g_cq N c left = some r ∧ (0 ≤ r → r ≤ left ∧ bdStringS 1048576 c) := by
  have hh : c.length ≤ 9223372036854775807 := h.1
  unfold g_cq
  by_cases q : left - (c.length : Int) < 0
  · exact ⟨-1, by simp (disch := omega) only [dec_t, cond_true, wi_of], fun h => absurd h (by omega)⟩
  · have key := szL_eq (p := (fun (e : List UInt8) m => some (wi (m - (e.length : Int))))) (Q := fun x => (x).length ≤ 1048576) (R := fun x => (x).length ≤ 9223372036854775807) N c 0 (left - (c.length : Int)) (fun x _ hx l h0 hl => ⟨l - (x.length : Int), by rw [wi_of (by omega) (by omega)], fun _ => ⟨by omega, by omega⟩⟩) h.2 (by omega) (by omega) (by omega) (by omega) (by omega) (by omega)
    rw [Int.natCast_zero] at key
    rcases key with e | ⟨m, e, k1, k2, k3⟩
    · exact ⟨-1, by simp (disch := omega) only [dec_f, cond_false, alt_inl, Option.bind_some, wi_of, szStringS_l, e], fun h => absurd h (by omega)⟩
    · exact ⟨m, by simp (disch := omega) only [dec_f, cond_false, alt_inr, Option.bind_some, wi_of, szStringS_l, e], fun _ => ⟨by omega, by omega, by simpa using k3⟩⟩
theorem szPending_eq {N : Nat} (hN : 18446744073709551616 ≤ N) (c : Int × List UInt8) (left : Int) (h0 : 0 ≤ left) (hl : left ≤ 1048576) (h : bdPending 9223372036854775807 c) : ∃ r : Int, g_co N c left = some r ∧ (0 ≤ r → r ≤ left ∧ bdPending 1048576 c) := by
  unfold g_co
  have b0 : c.2.length ≤ 9223372036854775807 := h
  by_cases q0 : left - (c.2.length : Int) < 0
  · exact ⟨-1, by simp (disch := omega) only [dec_t, cond_true, wi_of], fun h => absurd h (by omega)⟩
  exact ⟨left - (c.2.length : Int), by simp (disch := omega) only [dec_f, cond_false, wi_of], fun _ => ⟨by omega, by omega⟩⟩
theorem szPendingS_l (N n : Nat) (c : List (Int × List UInt8)) (m k : Int) : g_cp.l5 N n c m k = szL (g_co N) n c m k := by
  induction n generalizing m k with
  | zero => rfl
  | succ n ih => simp only [g_cp.l5, szL, ih]
theorem szPendingS_eq {N : Nat} (hN : 18446744073709551616 ≤ N) (c : List (Int × List UInt8)) (left : Int) (h0 : 0 ≤ left) (hl : left ≤ 1048576) (h : bdPendingS 9223372036854775807 c) : ∃ r : Int, g_cp N c left = some r ∧ (0 ≤ r → r ≤ left ∧ bdPendingS 1048576 c) := by
  have hh : c.length ≤ 9223372036854775807 := h.1
  unfold g_cp
  by_cases q : left - (c.length : Int) < 0
  · exact ⟨-1, by simp (disch := omega) only [dec_t, cond_true, wi_of], fun h => absurd h (by omega)⟩
  · have key := szL_eq (p := (g_co N)) (Q := fun x => bdPending 1048576 x) (R := fun x => bdPending 9223372036854775807 x) N c 0 (left - (c.length : Int)) (fun x _ hx l h0 hl => szPending_eq hN x l h0 hl hx) h.2 (by omega) (by omega) (by omega) (by omega) (by omega) (by omega)
    rw [Int.natCast_zero] at key
    rcases key with e | ⟨m, e, k1, k2, k3⟩
    · exact ⟨-1, by simp (disch := omega) only [dec_f, cond_false, alt_inl, Option.bind_some, wi_of, szPendingS_l, e], fun h => absurd h (by omega)⟩
    · exact ⟨m, by simp (disch := omega) only [dec_f, cond_false, alt_inr, Option.bind_some, wi_of, szPendingS_l, e], fun _ => ⟨by omega, by omega, by simpa using k3⟩⟩
theorem szDisk_eq {N : Nat} (hN : 18446744073709551616 ≤ N) (c : List (List UInt8) × List (Int × List UInt8) × List (List UInt8)) (left : Int) (h0 : 0 ≤ left) (hl : left ≤ 1048576) (h : bdDisk 9223372036854775807 c) : ∃ r : Int, g_cn N c left = some r ∧ (0 ≤ r → r ≤ left ∧ bdDisk 1048576 c) := by
  unfold g_cn
  obtain ⟨r0, e0, k0⟩ := szStringS_eq hN c.1 (left) (by omega) (by omega) h.1
  by_cases q0 : r0 < 0
  · exact ⟨-1, by simp (disch := omega) only [dec_t, cond_true, Option.bind_some, e0], fun h => absurd h (by omega)⟩
  obtain ⟨ka0, kb0⟩ := k0 (by omega)
  obtain ⟨r1, e1, k1⟩ := szPendingS_eq hN c.2.1 (r0) (by omega) (by omega) h.2.1
  by_cases q1 : r1 < 0
  · exact ⟨-1, by simp (disch := omega) only [dec_t, dec_f, cond_true, cond_false, Option.bind_some, e0, e1], fun h => absurd h (by omega)⟩
  obtain ⟨ka1, kb1⟩ := k1 (by omega)
  obtain ⟨r2, e2, k2⟩ := szStringS_eq hN c.2.2 (r1) (by omega) (by omega) h.2.2
  by_cases q2 : r2 < 0
  · exact ⟨-1, by simp (disch := omega) only [dec_t, dec_f, cond_true, cond_false, Option.bind_some, e0, e1, e2], fun h => absurd h (by omega)⟩
  obtain ⟨ka2, kb2⟩ := k2 (by omega)
  exact ⟨r2, by simp (disch := omega) only [dec_f, cond_false, Option.bind_some, e0, e1, e2], fun _ => ⟨by omega, ⟨kb0, kb1, kb2⟩⟩⟩
theorem eqStringS_l (N n : Nat) (c d : List (List UInt8)) (k : Int) : g_cf.l4 N n c d k = eqL (fun x y => some (decide (x = y))) n c d k := by
  induction n generalizing k with
  | zero => rfl
  | succ n ih => simp only [g_cf.l4, eqL, ih, beq_dec, Option.bind_some]
theorem eqStringS_eq {N : Nat} (hN : 18446744073709551616 ≤ N) (x y : List (List UInt8)) (h : bdStringS 1000000000 x) : g_cf N x y = some (decide (x = y)) := by
  have hl : x.length ≤ 1000000000 := h.1
  unfold g_cf
  simp only [eqStringS_l]
  exact eqS_eq x y (fun _ _ _ => rfl) (by omega) (by omega)
theorem eqPending_eq {N : Nat} (hN : 18446744073709551616 ≤ N) (x y : Int × List UInt8) (h : bdPending 1000000000 x) : g_cd N x y = some (decide (x = y)) := by
  obtain ⟨x0, x1⟩ := x
  obtain ⟨y0, y1⟩ := y
  simp only [g_cd, bne_dec, beq_dec, Prod.mk.injEq]
  by_cases h0 : x0 = y0 <;> by_cases h1 : x1 = y1 <;> simp only [h0, h1, decide_true, decide_false, Bool.not_true, Bool.not_false, cond_true, cond_false, and_true, and_false, and_self]
theorem eqPendingS_l (N n : Nat) (c d : List (Int × List UInt8)) (k : Int) : g_ce.l4 N n c d k = eqL (g_cd N) n c d k := by
  induction n generalizing k with
  | zero => rfl
  | succ n ih => simp only [g_ce.l4, eqL, ih]
theorem eqPendingS_eq {N : Nat} (hN : 18446744073709551616 ≤ N) (x y : List (Int × List UInt8)) (h : bdPendingS 1000000000 x) : g_ce N x y = some (decide (x = y)) := by
  have hl : x.length ≤ 1000000000 := h.1
  unfold g_ce
  simp only [eqPendingS_l]
  exact eqS_eq x y (fun z hz y => eqPending_eq hN z y (h.2 z hz)) (by omega) (by omega)
theorem eqDisk_eq {N : Nat} (hN : 18446744073709551616 ≤ N) (x y : List (List UInt8) × List (Int × List UInt8) × List (List UInt8)) (h : bdDisk 1000000000 x) : g_cc N x y = some (decide (x = y)) := by
  obtain ⟨x0, x1, x2⟩ := x
  obtain ⟨y0, y1, y2⟩ := y
  simp only [g_cc, eqStringS_eq hN x0 y0 h.1, eqPendingS_eq hN x1 y1 h.2.1, eqStringS_eq hN x2 y2 h.2.2, Option.bind_some, Prod.mk.injEq]
  by_cases h0 : x0 = y0 <;> by_cases h1 : x1 = y1 <;> by_cases h2 : x2 = y2 <;> simp only [h0, h1, h2, decide_true, decide_false, Bool.not_true, Bool.not_false, cond_true, cond_false, and_true, and_false, and_self]
def mkStringS (N : Nat) : Nat → List (List UInt8) → List (List UInt8)
  | _, [] => []
  | m, _ :: es => mtx N (m) :: mkStringS N (m + 1) es
theorem markStringS_l {N : Nat} (hN : 18446744073709551616 ≤ N) : ∀ (n m k : Nat) (done rest : List (List UInt8)), done.length = k → rest.length < n → k + rest.length ≤ 140737488355328 → m + 1 * rest.length ≤ 9000000000000000000 →
    g_cl.l2 N n (m : Int) (k : Int) (done ++ rest) = some (((m + 1 * rest.length : Nat) : Int), done ++ mkStringS N m rest)
  | 0, _, _, _, _, _, h, _, _ => by omega
  | n + 1, m, k, done, [], hk, hn, hl, hm => by
    unfold g_cl.l2
    subst hk
    simp (disch := omega) only [dec_t, dec_f, cond_false, gd_true, Int.toNat_natCast, bind_id, nc1, wi_of, List.length_nil, List.append_nil, mkStringS, Nat.mul_zero, Nat.add_zero]
  | n + 1, m, k, done, e :: es, hk, hn, hl, hm => by
    unfold g_cl.l2
    simp only [List.length_cons] at hn hl hm
    subst hk
    obtain ⟨t0, ht0⟩ := markText_some hN (m) (by omega)
    simp (disch := omega) only [dec_t, cond_true, gd_true, Int.toNat_natCast, Option.bind_some, bind_id, nc1, wi_of, List.length_append, List.length_cons, mid_get, mid_set, mtx, ht0, mkStringS]
    rw [List.append_cons, markStringS_l hN n (m + 1) (done.length + 1) _ es (by simp) (by omega) (by omega) (by omega)]
    simp only [List.append_assoc, List.singleton_append, Option.getD_some, Option.some.injEq, Prod.mk.injEq, and_true]
    omega
theorem heldStringS_l {N : Nat} (hN : 18446744073709551616 ≤ N) : ∀ (n m k : Nat) (done rest : List (List UInt8)), done.length = k → rest.length < n → k + rest.length ≤ 140737488355328 → m + 1 * rest.length ≤ 9000000000000000000 →
    g_ci.l2 N n (done ++ mkStringS N m rest) (m : Int) (k : Int) = some (.inr ((m + 1 * rest.length : Nat) : Int))
  | 0, _, _, _, _, _, h, _, _ => by omega
  | n + 1, m, k, done, [], hk, hn, hl, hm => by
    unfold g_ci.l2
    subst hk
    simp (disch := omega) only [dec_t, dec_f, cond_false, gd_true, Int.toNat_natCast, bind_id, nc1, wi_of, List.length_nil, List.append_nil, mkStringS, Nat.mul_zero, Nat.add_zero]
  | n + 1, m, k, done, e :: es, hk, hn, hl, hm => by
    unfold g_ci.l2
    simp only [List.length_cons] at hn hl hm
    subst hk
    obtain ⟨t0, ht0⟩ := markText_some hN (m) (by omega)
    simp (disch := omega) only [dec_t, cond_true, cond_false, gd_true, Bool.not_true, Int.toNat_natCast, Option.bind_some, bind_id, nc1, wi_of, List.length_append, List.length_cons, mid_get, mkStringS, mtx, ht0, Option.getD_some, beq_self_eq_true]
    rw [List.append_cons, heldStringS_l hN n (m + 1) (done.length + 1) _ es (by simp) (by omega) (by omega) (by omega)]
    congr 3
    omega
theorem StringS_held {N : Nat} (hN : 18446744073709551616 ≤ N) (c : List (List UInt8)) (m : Nat) (hm : m + 1000000000 ≤ 1000000000000000000) (h : bdStringS 1000000000 c) : ∃ o : List (List UInt8), ∃ k : Nat, g_cl N c (m : Int) = some (o, ((k : Nat) : Int)) ∧ m ≤ k ∧ k ≤ m + 1000000000 ∧ g_ci N o (m : Int) = some (k : Int) := by
  have hl : c.length ≤ 1000000000 := h.1
  have e1 := markStringS_l hN N m 0 [] c rfl (by omega) (by omega) (by omega)
  have e2 := heldStringS_l hN N m 0 [] c rfl (by omega) (by omega) (by omega)
  simp only [List.nil_append, Int.natCast_zero] at e1 e2
  refine ⟨mkStringS N m c, m + 1 * c.length, ?_, by omega, by omega, ?_⟩
  · unfold g_cl
    rw [e1]; rfl
  · unfold g_ci
    rw [e2]; rfl
def mkPendingS (N : Nat) : Nat → List (Int × List UInt8) → List (Int × List UInt8)
  | _, [] => []
  | m, _ :: es => (((m : Nat) : Int), mtx N (m + 1)) :: mkPendingS N (m + 1 + 1) es
theorem markPendingS_l {N : Nat} (hN : 18446744073709551616 ≤ N) : ∀ (n m k : Nat) (done rest : List (Int × List UInt8)), done.length = k → rest.length < n → k + rest.length ≤ 140737488355328 → m + 2 * rest.length ≤ 9000000000000000000 →
    g_ck.l2 N n (m : Int) (k : Int) (done ++ rest) = some (((m + 2 * rest.length : Nat) : Int), done ++ mkPendingS N m rest)
  | 0, _, _, _, _, _, h, _, _ => by omega
  | n + 1, m, k, done, [], hk, hn, hl, hm => by
    unfold g_ck.l2
    subst hk
    simp (disch := omega) only [dec_t, dec_f, cond_false, gd_true, Int.toNat_natCast, bind_id, nc1, wi_of, List.length_set, List.length_nil, List.append_nil, mkPendingS, Nat.mul_zero, Nat.add_zero]
  | n + 1, m, k, done, e :: es, hk, hn, hl, hm => by
    unfold g_ck.l2
    simp only [List.length_cons] at hn hl hm
    subst hk
    obtain ⟨t1, ht1⟩ := markText_some hN (m + 1) (by omega)
    simp (disch := omega) only [dec_t, cond_true, gd_true, Int.toNat_natCast, Option.bind_some, bind_id, nc1, wi_of, List.length_append, List.length_cons, mid_get, mid_set, mtx, ht1, mkPendingS]
    rw [List.append_cons, markPendingS_l hN n (m + 1 + 1) (done.length + 1) _ es (by simp) (by omega) (by omega) (by omega)]
    simp only [List.append_assoc, List.singleton_append, Option.getD_some, Option.some.injEq, Prod.mk.injEq, and_true]
    omega
theorem heldPendingS_l {N : Nat} (hN : 18446744073709551616 ≤ N) : ∀ (n m k : Nat) (done rest : List (Int × List UInt8)), done.length = k → rest.length < n → k + rest.length ≤ 140737488355328 → m + 2 * rest.length ≤ 9000000000000000000 →
    g_ch.l2 N n (done ++ mkPendingS N m rest) (m : Int) (k : Int) = some (.inr ((m + 2 * rest.length : Nat) : Int))
  | 0, _, _, _, _, _, h, _, _ => by omega
  | n + 1, m, k, done, [], hk, hn, hl, hm => by
    unfold g_ch.l2
    subst hk
    simp (disch := omega) only [dec_t, dec_f, cond_false, gd_true, Int.toNat_natCast, bind_id, nc1, wi_of, List.length_nil, List.append_nil, mkPendingS, Nat.mul_zero, Nat.add_zero]
  | n + 1, m, k, done, e :: es, hk, hn, hl, hm => by
    unfold g_ch.l2
    simp only [List.length_cons] at hn hl hm
    subst hk
    obtain ⟨t1, ht1⟩ := markText_some hN (m + 1) (by omega)
    simp (disch := omega) only [dec_t, cond_true, cond_false, gd_true, Bool.not_true, Int.toNat_natCast, Option.bind_some, bind_id, nc1, wi_of, List.length_append, List.length_cons, mid_get, mkPendingS, mtx, ht1, Option.getD_some, beq_self_eq_true, bne_self_eq_false]
    rw [List.append_cons, heldPendingS_l hN n (m + 1 + 1) (done.length + 1) _ es (by simp) (by omega) (by omega) (by omega)]
    congr 3
    omega
theorem PendingS_held {N : Nat} (hN : 18446744073709551616 ≤ N) (c : List (Int × List UInt8)) (m : Nat) (hm : m + 2000000000 ≤ 1000000000000000000) (h : bdPendingS 1000000000 c) : ∃ o : List (Int × List UInt8), ∃ k : Nat, g_ck N c (m : Int) = some (o, ((k : Nat) : Int)) ∧ m ≤ k ∧ k ≤ m + 2000000000 ∧ g_ch N o (m : Int) = some (k : Int) := by
  have hl : c.length ≤ 1000000000 := h.1
  have e1 := markPendingS_l hN N m 0 [] c rfl (by omega) (by omega) (by omega)
  have e2 := heldPendingS_l hN N m 0 [] c rfl (by omega) (by omega) (by omega)
  simp only [List.nil_append, Int.natCast_zero] at e1 e2
  refine ⟨mkPendingS N m c, m + 2 * c.length, ?_, by omega, by omega, ?_⟩
  · unfold g_ck
    rw [e1]; rfl
  · unfold g_ch
    rw [e2]; rfl
theorem Disk_held {N : Nat} (hN : 18446744073709551616 ≤ N) (c : List (List UInt8) × List (Int × List UInt8) × List (List UInt8)) (m : Nat) (hm : m + 4000000000 ≤ 1000000000000000000) (h : bdDisk 1000000000 c) : ∃ (o0_0 : List (List UInt8)) (o1_0 : List (Int × List UInt8)) (o2_0 : List (List UInt8)), ∃ k : Nat, g_cj N c (m : Int) = some (o0_0, o1_0, o2_0, ((k : Nat) : Int)) ∧ m ≤ k ∧ k ≤ m + 4000000000 ∧ g_cg N (o0_0, o1_0, o2_0) (m : Int) = some (k : Int) := by
  obtain ⟨o0_0, k0, e0, l0, u0, f0⟩ := StringS_held hN c.1 m (by omega) h.1
  obtain ⟨o1_0, k1, e1, l1, u1, f1⟩ := PendingS_held hN c.2.1 k0 (by omega) h.2.1
  obtain ⟨o2_0, k2, e2, l2, u2, f2⟩ := StringS_held hN c.2.2 k1 (by omega) h.2.2
  refine ⟨o0_0, o1_0, o2_0, k2, ?_, by omega, by omega, ?_⟩
  · unfold g_cj
    simp (disch := omega) only [Option.bind_some, e0, e1, e2]
  · unfold g_cg
    simp (disch := omega) only [dec_f, cond_false, Option.bind_some, f0, f1, f2]
abbrev bdBoolS (n : Nat) (x : List Bool) : Prop := x.length ≤ n
abbrev bdDiskAct (n : Nat) (x : Int × Int × List UInt8 × List Bool × Int) : Prop := (x.2.2.1).length ≤ n ∧ bdBoolS n x.2.2.2.1
end Go.Vm
namespace Go.Vm
theorem step_eq2 {N : Nat} (hN : 18446744073709551616 ≤ N) {d : DiskT} (h : OkD d) (a : ActT) (ha : a.2.2.1.length ≤ 2000000) (hk : a.2.2.2.1.length ≤ 2000000) : g_eo N d a = some (dStep d a) := by
  obtain ⟨b, c, s⟩ := d
  obtain ⟨k, at_, dt, kp, t⟩ := a
  have h1 := h.b1; have h2 := h.b2; have h3 := h.c1; have h4 := h.s3
  dsimp only at h1 h2 h3 h4 ha hk
  have eO := sOwn_eq N b c s (by omega) (by omega) (by omega)
  have eS : g_ep N (b, c, s) = some (pSync b c, [], s) := by
    unfold g_ep
    have := sync_l3 N b s c N 0 c b s (by omega) (by omega) (by omega) (by omega) fun p hp => ⟨(h.c2 p hp).1, (h.c2 p hp).2.1⟩
    simp only [Int.natCast_zero, List.drop_zero] at this
    simp only [eO, this, Option.bind_some]
  have eC : g_el N (b, c, s) kp t = some (pCrash kp t false 0 c b, [], s) := by
    unfold g_el
    have := crash_l5 N kp t b s [] s hk N 0 false c b (by omega) (by omega) (by omega) (by omega) h.b3 h.c2
    simp only [Int.natCast_zero, List.drop_zero, Bool.not_false] at this
    simp only [eO, this, Option.bind_some]
  unfold g_eo dStep
  dsimp only
  simp only [dIn, eO, eS, eC, Option.bind_some]
  by_cases e1 : k = 1
  · subst e1
    rw [if_pos (show (1 : Int) = 1 ∨ (1 : Int) = 6 from .inl rfl), if_neg (show ¬ (1 : Int) = 6 by omega)]
    by_cases p1 : 0 ≤ at_ ∧ at_ ≤ (b.length : Int) - 1
    · by_cases p2 : 200 < dt.length
      · simp (disch := omega) only [if_pos p1, if_pos p2, dec_t, cond_true, cond_false, gd_true, Bool.not_true, Bool.and_self, wi_of, room_t, beq_ti, beq_fi, List.length_cons, List.length_nil]
      · by_cases p3 : c.length = 4096
        · simp (disch := omega) only [if_pos p1, if_neg p2, if_pos p3, dec_t, dec_f, cond_true, cond_false, gd_true, Bool.not_true, Bool.and_self, wi_of, room_t, beq_ti, beq_fi, List.length_cons, List.length_nil]
        · simp (disch := omega) only [if_pos p1, if_neg p2, if_neg p3, dec_t, dec_f, cond_true, cond_false, gd_true, Bool.not_true, Bool.and_self, wi_of, room_t, beq_ti, beq_fi, List.length_cons, List.length_nil]
    · have e : (decide (0 ≤ at_) && decide (at_ ≤ (b.length : Int) - 1)) = false := by
        by_cases q : 0 ≤ at_
        · rw [dec_f (p := at_ ≤ (b.length : Int) - 1) (by omega), Bool.and_false]
        · rw [dec_f q, Bool.false_and]
      simp (disch := omega) only [if_neg p1, e, cond_true, cond_false, gd_true, Bool.not_false, wi_of, room_t, beq_ti, beq_fi, List.length_cons, List.length_nil]
  · by_cases e6 : k = 6
    · subst e6
      rw [if_pos (show (6 : Int) = 1 ∨ (6 : Int) = 6 from .inr rfl), if_pos (show (6 : Int) = 6 from rfl)]
      by_cases p1 : 0 ≤ at_ ∧ at_ ≤ (b.length : Int) - 1
      · have hb : at_.toNat < b.length := by omega
        by_cases p2 : 200 < dt.length
        · simp (disch := omega) only [if_pos p1, if_pos p2, dec_t, cond_true, cond_false, gd_true, Bool.not_true, Bool.and_self, wi_of, room_t, beq_ti, beq_fi, List.length_cons, List.length_nil]
        · simp (disch := omega) only [if_pos p1, if_neg p2, dec_t, dec_f, cond_true, cond_false, gd_true, Bool.not_true, Bool.and_self, get_t, Option.bind_some, wi_of, room_t, beq_ti, beq_fi, List.length_cons, List.length_nil]
      · have e : (decide (0 ≤ at_) && decide (at_ ≤ (b.length : Int) - 1)) = false := by
          by_cases q : 0 ≤ at_
          · rw [dec_f (p := at_ ≤ (b.length : Int) - 1) (by omega), Bool.and_false]
          · rw [dec_f q, Bool.false_and]
        simp (disch := omega) only [if_neg p1, e, cond_true, cond_false, gd_true, Bool.not_false, wi_of, room_t, beq_ti, beq_fi, List.length_cons, List.length_nil]
    · rw [if_neg (show ¬ (k = 1 ∨ k = 6) by omega)]
      simp (disch := omega) only [cond_false, gd_true, wi_of, room_t, beq_fi, List.length_cons, List.length_nil]
      by_cases e2 : k = 2
      · simp (disch := omega) only [if_pos e2, cond_true, cond_false, beq_ti, beq_fi]
      · simp (disch := omega) only [if_neg e2, cond_false, beq_fi]
        by_cases e3 : k = 3
        · simp (disch := omega) only [if_pos e3, cond_true, cond_false, beq_ti, beq_fi]
        · simp (disch := omega) only [if_neg e3, cond_false, beq_fi]
          by_cases e4 : k = 4
          · simp (disch := omega) only [if_pos e4, cond_true, cond_false, beq_ti, beq_fi, List.nil_append]
          · simp (disch := omega) only [if_neg e4, cond_false, beq_fi]
            by_cases e5 : k = 5
            · simp (disch := omega) only [if_pos e5, cond_true, beq_ti]
              by_cases p : s.length = 0
              · simp (disch := omega) only [if_pos p, cond_true, beq_ti]
              · simp (disch := omega) only [if_neg p, cond_false, beq_fi, List.nil_append]
            · simp (disch := omega) only [if_neg e5, cond_false, beq_fi]
theorem sOK_l4 (N : Nat) (b s : List (List UInt8)) (c : List (Int × List UInt8)) (hb : b.length ≤ 1000000000) : ∀ (n k : Nat), b.length ≤ k + n - 1 → 0 < n → k ≤ b.length →
    g_dh.l4 N n (k : Int) b c s = some (bif (b.drop k).all (fun x => decide (x.length ≤ 200)) then .inr (b, c, s) else .inl false)
  | 0, _, _, h, _ => by omega
  | n + 1, k, hn, _, hk => by
    unfold g_dh.l4
    by_cases h : k < b.length
    · rw [drop_get h, List.all_cons]
      by_cases h2 : b[k].length ≤ 200
      · simp (disch := omega) only [dec_t, dec_f, cond_true, cond_false, gd_true, Bool.true_and, Int.toNat_natCast, get_t, Option.bind_some, bind_id, nc1, wi_of, sOK_l4 N b s c hb n (k + 1)]
      · simp (disch := omega) only [dec_t, dec_f, cond_true, cond_false, gd_true, Int.toNat_natCast, get_t, Option.bind_some, bind_id, nc1, wi_of, Bool.false_and]
    · simp (disch := omega) only [dec_t, dec_f, cond_true, cond_false, gd_true, Int.toNat_natCast, bind_id, nc1, wi_of, List.drop_of_length_le, List.all_nil]
theorem sOK_l9 (N : Nat) (b s : List (List UInt8)) (c : List (Int × List UInt8)) (hb : s.length ≤ 1000000000) : ∀ (n k : Nat), s.length ≤ k + n - 1 → 0 < n → k ≤ s.length →
    g_dh.l9 N n (k : Int) b c s = some (bif (s.drop k).all (fun x => decide (x.length ≤ 200)) then .inr (b, c, s) else .inl false)
  | 0, _, _, h, _ => by omega
  | n + 1, k, hn, _, hk => by
    unfold g_dh.l9
    by_cases h : k < s.length
    · rw [drop_get h, List.all_cons]
      by_cases h2 : s[k].length ≤ 200
      · simp (disch := omega) only [dec_t, dec_f, cond_true, cond_false, gd_true, Bool.true_and, Int.toNat_natCast, get_t, Option.bind_some, bind_id, nc1, wi_of, sOK_l9 N b s c hb n (k + 1)]
      · simp (disch := omega) only [dec_t, dec_f, cond_true, cond_false, gd_true, Int.toNat_natCast, get_t, Option.bind_some, bind_id, nc1, wi_of, Bool.false_and]
    · simp (disch := omega) only [dec_t, dec_f, cond_true, cond_false, gd_true, Int.toNat_natCast, bind_id, nc1, wi_of, List.drop_of_length_le, List.all_nil]
theorem sOK_l14 (N : Nat) (b s : List (List UInt8)) (c : List (Int × List UInt8)) (hb : c.length ≤ 1000000000) (hb2 : b.length ≤ 1000000000) : ∀ (n k : Nat), c.length ≤ k + n - 1 → 0 < n → k ≤ c.length →
    g_dh.l14 N n (k : Int) b c s = some (bif (c.drop k).all (goodP b.length) then .inr () else .inl false)
  | 0, _, _, h, _ => by omega
  | n + 1, k, hn, _, hk => by
    unfold g_dh.l14
    by_cases h : k < c.length
    · rw [drop_get h, List.all_cons, goodP]
      by_cases q1 : 0 ≤ c[k].1
      · by_cases q2 : c[k].1 ≤ (b.length : Int) - 1
        · by_cases h2 : c[k].2.length ≤ 200
          · simp (disch := omega) only [dIn, dec_t, dec_f, cond_true, cond_false, gd_true, Bool.not_true, Bool.true_and, Bool.and_self, Int.toNat_natCast, get_t, Option.bind_some, bind_id, nc1, wi_of, sOK_l14 N b s c hb hb2 n (k + 1)]
          · simp (disch := omega) only [dIn, dec_t, dec_f, cond_true, cond_false, gd_true, Bool.not_true, Bool.and_self, Int.toNat_natCast, get_t, Option.bind_some, bind_id, nc1, wi_of, Bool.and_false, Bool.false_and]
        · simp (disch := omega) only [dIn, dec_t, dec_f, cond_true, cond_false, gd_true, Bool.not_false, Int.toNat_natCast, get_t, Option.bind_some, bind_id, nc1, wi_of, Bool.and_false, Bool.false_and]
      · simp (disch := omega) only [dIn, dec_t, dec_f, cond_true, cond_false, gd_true, Bool.not_false, Bool.and_true, Int.toNat_natCast, get_t, Option.bind_some, bind_id, nc1, wi_of, Bool.false_and]
    · simp (disch := omega) only [dec_t, dec_f, cond_true, cond_false, gd_true, Int.toNat_natCast, bind_id, nc1, wi_of, List.drop_of_length_le, List.all_nil]
theorem sDiskOK_any {N : Nat} (hN : 18446744073709551616 ≤ N) (d : DiskT) (h1 : d.1.length ≤ 1000000000) (h2 : d.2.1.length ≤ 1000000000) (h3 : d.2.2.length ≤ 1000000000) : g_dh N d = some (okDB d) := by
  obtain ⟨b, c, s⟩ := d
  dsimp only at h1 h2 h3
  have e1 := sOK_l4 N b s c h1 N 0 (by omega) (by omega) (by omega)
  have e2 := sOK_l9 N b s c h3 N 0 (by omega) (by omega) (by omega)
  have e3 := sOK_l14 N b s c h2 h1 N 0 (by omega) (by omega) (by omega)
  simp only [Int.natCast_zero, List.drop_zero] at e1 e2 e3
  unfold g_dh okDB
  simp only [dIn, e1, Option.bind_some]
  by_cases q1 : 1 ≤ b.length
  · by_cases q2 : b.length ≤ 64
    · by_cases q4 : c.length ≤ 4096
      · by_cases q6 : s.length = 0
        · simp (disch := omega) only [dec_t, dec_f, cond_true, cond_false, Bool.not_true, Bool.and_true, Bool.true_and, Bool.and_self, bne_ti, bne_fi, Bool.true_or]
          cases b.all (fun x => decide (x.length ≤ 200))
          · simp only [cond_false, Bool.false_and, alt_inl]
          · simp only [cond_true, Bool.true_and, alt_inr, e2, Option.bind_some]
            cases s.all (fun x => decide (x.length ≤ 200)) <;> simp only [cond_true, cond_false, alt_inl, alt_inr, e3, Option.bind_some, Bool.and_false, Bool.and_true] <;> cases c.all (goodP b.length) <;> rfl
        · by_cases q7 : s.length = b.length
          · simp (disch := omega) only [dec_t, dec_f, cond_true, cond_false, Bool.not_true, Bool.and_true, Bool.true_and, Bool.and_self, bne_ti, bne_fi, Bool.false_or]
            cases b.all (fun x => decide (x.length ≤ 200))
            · simp only [cond_false, Bool.false_and, alt_inl]
            · simp only [cond_true, Bool.true_and, alt_inr, e2, Option.bind_some]
              cases s.all (fun x => decide (x.length ≤ 200)) <;> simp only [cond_true, cond_false, alt_inl, alt_inr, e3, Option.bind_some, Bool.and_false, Bool.and_true] <;> cases c.all (goodP b.length) <;> rfl
          · simp (disch := omega) only [dec_t, dec_f, cond_true, cond_false, Bool.not_true, Bool.and_true, Bool.true_and, Bool.and_self, bne_ti, Bool.or_self, Bool.and_false, Bool.false_and]
      · simp (disch := omega) only [dec_t, dec_f, cond_true, cond_false, Bool.not_true, Bool.true_and, Bool.and_self, Bool.and_false, Bool.false_and]
    · simp (disch := omega) only [dec_t, dec_f, cond_true, Bool.not_false, Bool.and_false, Bool.false_and]
  · simp (disch := omega) only [dec_t, dec_f, cond_true, Bool.not_false, Bool.and_true, Bool.false_and]
theorem dOwn (N : Nat) {d : DiskT} (h : OkD d) : g_ai N d = some d := by
  obtain ⟨b, c, s⟩ := d
  have h1 := h.b2; have h2 := h.c1; have h3 := h.s3
  dsimp only at h1 h2 h3
  exact own_eq N b c s (by omega) (by omega) (by omega)
theorem dOwnS (N : Nat) {d : DiskT} (h : OkD d) : g_em N d = some d := by
  obtain ⟨b, c, s⟩ := d
  have h1 := h.b2; have h2 := h.c1; have h3 := h.s3
  dsimp only at h1 h2 h3
  exact sOwn_eq N b c s (by omega) (by omega) (by omega)
end Go.Vm
namespace Go.Vm
theorem sread_l2 (N : Nat) (b : List (List UInt8)) (c : List (Int × List UInt8)) (s : List (List UInt8)) (at_ : Int) (hc : c.length ≤ 1000000) : ∀ (n k : Nat), k < n → k ≤ c.length → g_en.l2 N n at_ ((k : Int) - 1) b c s = some (match rdF c at_ k with | some v => .inl v | none => .inr (b, c, s))
  | 0, k, h, _ => by omega
  | n + 1, 0, h, hk => by
    unfold g_en.l2
    simp (disch := omega) only [dec_f, cond_false, bind_id, wi_of, rdF]
  | n + 1, k + 1, h, hk => by
    unfold g_en.l2
    have hkc : k < c.length := by omega
    have e : (((k + 1 : Nat) : Int) - 1) = (k : Int) := by omega
    have ih := sread_l2 N b c s at_ hc n k (by omega) (by omega)
    rw [e, rdF, get_t hkc]
    by_cases q : c[k].1 = at_
    · simp (disch := omega) only [dec_t, cond_true, gd_true, Int.toNat_natCast, get_t, Option.bind_some, bind_id, wi_of, beq_ti, if_pos q]
    · simp (disch := omega) only [dec_t, cond_true, cond_false, gd_true, Int.toNat_natCast, get_t, Option.bind_some, bind_id, wi_of, beq_fi, if_neg q, ih]
theorem sread_eq {N : Nat} (hN : 18446744073709551616 ≤ N) (b : List (List UInt8)) (c : List (Int × List UInt8)) (s : List (List UInt8)) (at_ : Int) (hc : c.length ≤ 1000000) (h1 : 0 ≤ at_) (h2 : at_ < (b.length : Int)) : g_en N (b, c, s) at_ = some (rdD (b, c, s) at_) := by
  have e := sread_l2 N b c s at_ hc N c.length (by omega) (Nat.le_refl _)
  have hlt : at_.toNat < b.length := by omega
  have ew : wi ((c.length : Int) - 1) = (c.length : Int) - 1 := wi_of (by omega) (by omega)
  unfold g_en rdD
  dsimp only
  rw [ew, e]
  cases rdF c at_ c.length with
  | some v => simp only [Option.bind_some, alt_inl]
  | none => simp (disch := omega) only [dec_t, gd_true, alt_inr, get_t, Option.bind_some, bind_id]; rfl
theorem rdF_mem (c : List (Int × List UInt8)) (at_ : Int) : ∀ (k : Nat) (v : List UInt8), rdF c at_ k = some v → ∃ p ∈ c, p.2 = v
  | 0, v, h => by simp [rdF] at h
  | k + 1, v, h => by
    unfold rdF at h
    split at h
    · rename_i p hp
      split at h
      · simp only [Option.some.injEq] at h
        exact ⟨p, List.mem_of_getElem? hp, h⟩
      · exact rdF_mem c at_ k v h
    · exact rdF_mem c at_ k v h
theorem rdD_len {d : DiskT} (h : OkD d) (at_ : Int) : (rdD d at_).length ≤ 200 := by
  unfold rdD
  split
  · rename_i v hv
    obtain ⟨p, hp, rfl⟩ := rdF_mem _ _ _ _ hv
    exact (h.c2 p hp).2.2
  · cases hb : d.1[at_.toNat]? with
    | none => simp
    | some x => exact h.b3 x (List.mem_of_getElem? hb)
def best (s : Option (Int × List UInt8)) (cur : Int × List UInt8) : Int × List UInt8 := match s with | some x => if cur.1 < x.1 then x else cur | none => cur
def openF (key : List UInt8) (d : DiskT) : Int × List UInt8 := best (rdSlot key 1 (rdD d 1)) (best (rdSlot key 0 (rdD d 0)) (0, []))
theorem iOpen_step {key : List UInt8} {d : DiskT} (hd : OkD d) (hl : 2 ≤ d.1.length) (hk : key.length ≤ 1000000) (n p : Nat) (hp : p < 2) (m5 : Int) (m6 : List UInt8) (cur : Int × List UInt8) :
    g_ah.l3 N0 (n + 1) key (p : Int) d.1 d.2.1 d.2.2 m5 m6 cur.1 cur.2 = g_ah.l3 N0 n key ((p + 1 : Nat) : Int) d.1 d.2.1 d.2.2 m5 m6 (best (rdSlot key p (rdD d p)) cur).1 (best (rdSlot key p (rdD d p)) cur).2 := by
  obtain ⟨b, c, s⟩ := d
  dsimp only at hl ⊢
  have hr := read_eq N0 b c s (p : Int) (by omega) (by omega)
  have hrl := rdD_len hd (p : Int)
  obtain ⟨x, ok, e, h⟩ := iReadSlot1 (key := key) (place := (p : Int)) (b := rdD (b, c, s) (p : Int)) hk (by omega)
  conv => lhs; unfold g_ah.l3
  rcases h with ⟨rfl, h⟩ | ⟨rfl, h⟩
  · rw [h]
    by_cases hc : cur.1 < x.1
    · simp (disch := omega) only [dec_t, cond_true, Option.bind_some, bind_id, nc1, wi_of, hr, e, best, if_pos hc]
    · simp (disch := omega) only [dec_t, dec_f, cond_true, cond_false, Option.bind_some, bind_id, nc1, wi_of, hr, e, best, if_neg hc]
  · rw [h]
    simp (disch := omega) only [dec_t, cond_true, cond_false, Option.bind_some, bind_id, nc1, wi_of, hr, e, best]
theorem sOpen_step {key : List UInt8} {d : DiskT} (hd : OkD d) (hl : 2 ≤ d.1.length) (hk : key.length ≤ 1000000) (n p : Nat) (hp : p < 2) (m5 : Int) (m6 : List UInt8) (cur : Int × List UInt8) :
    g_eu.l3 N0 (n + 1) key (p : Int) d.1 d.2.1 d.2.2 m5 m6 cur.1 cur.2 = g_eu.l3 N0 n key ((p + 1 : Nat) : Int) d.1 d.2.1 d.2.2 m5 m6 (best (rdSlot key p (rdD d p)) cur).1 (best (rdSlot key p (rdD d p)) cur).2 := by
  have hcl := hd.c1
  have hrl := rdD_len hd (p : Int)
  obtain ⟨b, c, s⟩ := d
  dsimp only at hl hcl ⊢
  have hr := sread_eq hN0 b c s (p : Int) (by omega) (by omega) (by omega)
  have e := sReadSlot1 (key := key) (place := (p : Int)) (b := rdD (b, c, s) (p : Int)) hk (by omega)
  conv => lhs; unfold g_eu.l3
  cases h : rdSlot key (p : Int) (rdD (b, c, s) (p : Int)) with
  | some x =>
    rw [h] at e
    by_cases hc : cur.1 < x.1
    · simp (disch := omega) only [dec_t, cond_true, Option.bind_some, bind_id, nc1, wi_of, hr, e, best, if_pos hc]
    · simp (disch := omega) only [dec_t, dec_f, cond_true, cond_false, Option.bind_some, bind_id, nc1, wi_of, hr, e, best, if_neg hc]
  | none =>
    rw [h] at e
    simp (disch := omega) only [dec_t, cond_true, cond_false, Option.bind_some, bind_id, nc1, wi_of, hr, e, best]
theorem iOpenF {key : List UInt8} {d : DiskT} (hd : OkD d) (hl : 2 ≤ d.1.length) (hk : key.length ≤ 1000000) : g_ah N0 d key = some (openF key d) := by
  unfold g_ah
  have h0 := iOpen_step hd hl hk 18446744073709551615 0 (by omega) 0 [] (0, [])
  have h1 := iOpen_step hd hl hk 18446744073709551614 1 (by omega) 0 [] (best (rdSlot key 0 (rdD d 0)) (0, []))
  have h2 : ∀ (x : Int) (y : List UInt8), g_ah.l3 N0 18446744073709551614 key ((2 : Nat) : Int) d.1 d.2.1 d.2.2 0 [] x y = some (0, [], x, y) := fun x y => by
    rw [show (18446744073709551614 : Nat) = 18446744073709551613 + 1 from rfl]
    unfold g_ah.l3
    simp (disch := omega) only [dec_f, cond_false, bind_id, nc1, wi_of]
  rw [show (18446744073709551615 + 1 : Nat) = N0 from rfl, Int.natCast_zero] at h0
  rw [show (18446744073709551614 + 1 : Nat) = 18446744073709551615 from rfl, show ((1 : Nat) : Int) = 1 from rfl] at h1
  rw [h0, show ((0 + 1 : Nat) : Int) = 1 from rfl, h1, h2]; rfl
theorem sOpenF {key : List UInt8} {d : DiskT} (hd : OkD d) (hl : 2 ≤ d.1.length) (hk : key.length ≤ 1000000) : g_eu N0 key d = some (openF key d) := by
  unfold g_eu
  have h0 := sOpen_step hd hl hk 18446744073709551615 0 (by omega) 0 [] (0, [])
  have h1 := sOpen_step hd hl hk 18446744073709551614 1 (by omega) 0 [] (best (rdSlot key 0 (rdD d 0)) (0, []))
  have h2 : ∀ (x : Int) (y : List UInt8), g_eu.l3 N0 18446744073709551614 key ((2 : Nat) : Int) d.1 d.2.1 d.2.2 0 [] x y = some (0, [], x, y) := fun x y => by
    rw [show (18446744073709551614 : Nat) = 18446744073709551613 + 1 from rfl]
    unfold g_eu.l3
    simp (disch := omega) only [dec_f, cond_false, bind_id, nc1, wi_of]
  rw [show (18446744073709551615 + 1 : Nat) = N0 from rfl, Int.natCast_zero] at h0
  rw [show (18446744073709551614 + 1 : Nat) = 18446744073709551615 from rfl, show ((1 : Nat) : Int) = 1 from rfl] at h1
  rw [h0, show ((0 + 1 : Nat) : Int) = 1 from rfl, h1, h2]; rfl
def slCode (key : List UInt8) (d : DiskT) : Int := if key.length = 32 then (if okDB d = true then (if d.1.length < 2 then 4 else 0) else 1) else 1
theorem iSlCode {key : List UInt8} {d : DiskT} (h1 : d.1.length ≤ 1048576) (h2 : d.2.1.length ≤ 1048576) (h3 : d.2.2.length ≤ 1048576) : g_bt N0 key d = some (if 65536 < key.length then 2 else slCode key d) := by
  unfold g_bt slCode
  rw [isLongS_eq hN0 key, iDiskOK_any hN0 d (by omega) (by omega) (by omega)]
  by_cases q1 : 65536 < key.length
  · simp (disch := omega) only [dec_t, cond_true, Option.bind_some, bne_ti, if_pos q1]
  by_cases q2 : key.length = 32
  · cases hd : okDB d
    · simp (disch := omega) only [dec_f, cond_true, cond_false, Bool.not_false, Option.bind_some, bne_fi, if_neg q1, if_pos q2, Bool.false_eq_true, if_false]
    · by_cases q3 : d.1.length < 2
      · simp (disch := omega) only [dec_t, dec_f, cond_true, cond_false, Bool.not_true, Option.bind_some, bne_fi, if_neg q1, if_pos q2, if_true, if_pos q3]
      · simp (disch := omega) only [dec_f, cond_false, Bool.not_true, Option.bind_some, bne_fi, if_neg q1, if_pos q2, if_true, if_neg q3]
  · simp (disch := omega) only [dec_f, cond_true, cond_false, Option.bind_some, bne_ti, if_neg q1, if_neg q2]
theorem sSlCode {key : List UInt8} {d : DiskT} (h1 : d.1.length ≤ 1048576) (h2 : d.2.1.length ≤ 1048576) (h3 : d.2.2.length ≤ 1048576) (hk : key.length ≤ 1048576) : g_er N0 key d = some (slCode key d) := by
  unfold g_er slCode
  rw [sDiskOK_any hN0 d (by omega) (by omega) (by omega)]
  by_cases q2 : key.length = 32
  · cases hd : okDB d
    · simp (disch := omega) only [cond_true, cond_false, Bool.not_false, Option.bind_some, bne_fi, if_pos q2, Bool.false_eq_true, if_false]
    · by_cases q3 : d.1.length < 2
      · simp (disch := omega) only [dec_t, cond_true, cond_false, Bool.not_true, Option.bind_some, bne_fi, if_pos q2, if_true, if_pos q3]
      · simp (disch := omega) only [dec_f, cond_false, Bool.not_true, Option.bind_some, bne_fi, if_pos q2, if_true, if_neg q3]
  · simp (disch := omega) only [cond_true, Option.bind_some, bne_ti, if_neg q2]
theorem slCode_ok {key : List UInt8} {d : DiskT} (h : slCode key d = 0) : key.length = 32 ∧ OkD d ∧ 2 ≤ d.1.length := by
  unfold slCode at h
  by_cases q2 : key.length = 32
  · rw [if_pos q2] at h
    by_cases q : okDB d = true
    · rw [if_pos q] at h
      by_cases q3 : d.1.length < 2
      · rw [if_pos q3] at h; omega
      · exact ⟨q2, okDB_spec q, by omega⟩
    · rw [if_neg q] at h; omega
  · rw [if_neg q2] at h; omega
end Go.Vm
namespace Go.Vm
abbrev bdDiskActS (n : Nat) (x : List (Int × Int × List UInt8 × List Bool × Int)) : Prop := x.length ≤ n ∧ ∀ y ∈ x, bdDiskAct n y
end Go.Vm
namespace Go.Vm
def sealF (key nonce extra b : List UInt8) : List UInt8 := ctrF (keysOf (key1 key)) nonce b ++ tagF (key2 key) nonce extra (ctrF (keysOf (key1 key)) nonce b)
theorem sealF_len (key nonce extra b : List UInt8) : (sealF key nonce extra b).length = b.length + 16 := by simp [sealF, ctrF_len, tagF_len]
theorem tagI {key nonce extra b : List UInt8} (hno : nonce.length = 12) (he : extra.length ≤ 1000000) (hb : b.length ≤ 1000000000) : g_bv N0 (key2 key) nonce extra b = some (tagF (key2 key) nonce extra b) := iTag (by rw [key2_len]; decide) (by rw [hno]; decide) he hb
theorem tagS {key nonce extra b : List UInt8} (hno : nonce.length = 12) (he : extra.length ≤ 1000000) (hb : b.length ≤ 1000000000) : g_ek N0 (key2 key) nonce extra b = some (tagF (key2 key) nonce extra b) := sTag (by rw [key2_len]; decide) (by rw [hno]; decide) he hb
theorem sealI {key nonce extra b K1 K2 C T : List UInt8} (h1 : g_bq N0 key = some (K1, K2)) (h2 : g_ax N0 K1 nonce b = some C) (h3 : g_bv N0 K2 nonce extra C = some T) (h4 : C.length ≤ 1000000000) (h5 : T.length = 16) : g_bp N0 key nonce extra b = some (C ++ T) := by
  unfold g_bp
  rw [h1, Option.bind_some]
  show ((g_ax N0 K1 nonce b).bind _) = _
  rw [h2, Option.bind_some]
  show ((g_bv N0 K2 nonce extra C).bind _) = _
  rw [h3, Option.bind_some]
  simp (disch := omega) only [dec_t, gd_true]
theorem sealS {key nonce extra b K1 K2 C T : List UInt8} (h1 : g_eg N0 key = some (K1, K2)) (h2 : g_dy N0 K1 nonce b = some C) (h3 : g_ek N0 K2 nonce extra C = some T) (h4 : C.length ≤ 1000000000) (h5 : T.length = 16) : g_ej N0 key nonce extra b = some (C ++ T) := by
  unfold g_ej
  rw [h1, Option.bind_some]
  show ((g_dy N0 K1 nonce b).bind _) = _
  rw [h2, Option.bind_some]
  show ((g_ek N0 K2 nonce extra C).bind _) = _
  rw [h3, Option.bind_some]
  simp (disch := omega) only [gd_true, room_t]
theorem iSeal {key nonce extra b : List UInt8} (hk : key.length ≤ 1000000) (hno : nonce.length = 12) (he : extra.length ≤ 1000000) (hb : b.length ≤ 1000000000) : g_bp N0 key nonce extra b = some (sealF key nonce extra b) :=
  sealI (iSealKeys hk) (iCtr (key1_len key) hno hb) (tagI hno he (by rw [ctrF_len]; exact hb)) (by rw [ctrF_len]; exact hb) (tagF_len _ _ _ _)
theorem sSeal {key nonce extra b : List UInt8} (hk : key.length ≤ 1000000) (hno : nonce.length = 12) (he : extra.length ≤ 1000000) (hb : b.length ≤ 1000000000) : g_ej N0 key nonce extra b = some (sealF key nonce extra b) :=
  sealS (sSealKeys hk) (sCtr (key1_len key) hno hb) (tagS hno he (by rw [ctrF_len]; exact hb)) (by rw [ctrF_len]; exact hb) (tagF_len _ _ _ _)
def slotF (key : List UInt8) (place e : Int) (b : List UInt8) : List UInt8 := bytesN 4 e ++ sealF key (nonceF place e) slotW b
theorem slotF_len (key : List UInt8) (place e : Int) (b : List UInt8) : (slotF key place e b).length = b.length + 20 := by simp [slotF, sealF_len, bytesN_length]; omega
theorem iSlotBytes {key : List UInt8} {place e : Int} {b : List UInt8} (hk : key.length ≤ 1000000) (hb : b.length ≤ 1000000000) : g_bs N0 key place (e, b) = some (slotF key place e b) := by
  have h1 := iSeal (key := key) (nonce := nonceF place e) (extra := slotW) (b := b) hk (nonceF_len _ _) (by simp [slotW]) hb
  have h2 := sealF_len key (nonceF place e) slotW b
  have h3 := bytesN_length 4 e
  unfold g_bs slotF
  unfold slotW at h1 h2 ⊢
  simp (disch := omega) only [dec_t, gd_true, Option.bind_some, iFour, iNonce, h1]
theorem sSlotBytes {key : List UInt8} {place e : Int} {b : List UInt8} (hk : key.length ≤ 1000000) (hb : b.length ≤ 1000000000) : g_eq N0 key place (e, b) = some (slotF key place e b) := by
  have h1 := sSeal (key := key) (nonce := nonceF place e) (extra := slotW) (b := b) hk (nonceF_len _ _) (by simp [slotW]) hb
  have h2 := sealF_len key (nonceF place e) slotW b
  have h3 := bytesN_length 4 e
  unfold g_eq slotF
  unfold slotW at h1 h2 ⊢
  simp (disch := omega) only [gd_true, Option.bind_some, room_t, sFourB, sNonce, h1]
theorem rdSlot_ep {key : List UInt8} {place : Int} {b : List UInt8} {s : Int × List UInt8} (h : rdSlot key place b = some s) : 1 ≤ s.1 ∧ s.1 ≤ 4294967295 := by
  unfold rdSlot at h
  split at h
  · simp at h
  · split at h
    · split at h
      · rename_i q
        simp only [slotOK, Bool.and_eq_true, decide_eq_true_eq] at q
        simp only [Option.some.injEq] at h
        subst h
        exact q.1
      · simp at h
    · simp at h
theorem best_ep {s : Option (Int × List UInt8)} {cur : Int × List UInt8} (h1 : ∀ x, s = some x → 1 ≤ x.1 ∧ x.1 ≤ 4294967295) (h2 : 0 ≤ cur.1 ∧ cur.1 ≤ 4294967295) : 0 ≤ (best s cur).1 ∧ (best s cur).1 ≤ 4294967295 := by
  unfold best
  split
  · rename_i x
    have := h1 x rfl
    split <;> omega
  · exact h2
theorem openF_ep (key : List UInt8) (d : DiskT) : 0 ≤ (openF key d).1 ∧ (openF key d).1 ≤ 4294967295 := best_ep (fun _ h => rdSlot_ep h) (best_ep (fun _ h => rdSlot_ep h) (by decide))
def planF (key : List UInt8) (e : Int) (data : List UInt8) : List ActT := [(2, 0, [], [], 0), (1, e.tmod 2, slotF key (e.tmod 2) e data, [], 0), (2, 0, [], [], 0)]
theorem planF_bd (key : List UInt8) (e : Int) (data : List UInt8) (h : data.length ≤ 170) : bdDiskActS 1000000 (planF key e data) := by
  have := slotF_len key (e.tmod 2) e data
  refine ⟨by simp [planF], fun y hy => ?_⟩
  simp only [planF, List.mem_cons, List.not_mem_nil, or_false] at hy
  rcases hy with rfl | rfl | rfl
  · exact ⟨by simp, by simp [bdBoolS]⟩
  · exact ⟨by simp only []; omega, by simp [bdBoolS]⟩
  · exact ⟨by simp, by simp [bdBoolS]⟩
def slotPlanF (key : List UInt8) (d : DiskT) (data : List UInt8) : List ActT × Int :=
  if 65536 < data.length ∨ 65536 < key.length then ([], 2) else if slCode key d = 0 then
    if data.length ≤ 170 ∧ (openF key d).1 ≠ 4294967295 then (planF key ((openF key d).1 + 1) data, 0) else ([], 7)
  else ([], slCode key d)
theorem sSlotPlan {key data : List UInt8} {d : DiskT} (h1 : d.1.length ≤ 1048576) (h2 : d.2.1.length ≤ 1048576) (h3 : d.2.2.length ≤ 1048576) (hk : key.length ≤ 1048576) (hd : data.length ≤ 1048576) : g_dk N0 key d data = some (slotPlanF key d data) := by
  unfold g_dk slotPlanF
  rw [sSlCode h1 h2 h3 hk]
  by_cases q1 : 65536 < key.length
  · rw [if_pos (show 65536 < data.length ∨ 65536 < key.length from .inr q1)]
    simp (disch := omega) only [dec_t, cond_true, Option.bind_some]
  by_cases q0 : 65536 < data.length
  · rw [if_pos (show 65536 < data.length ∨ 65536 < key.length from .inl q0)]
    simp (disch := omega) only [dec_t, dec_f, cond_true, cond_false, Option.bind_some]
  rw [if_neg (show ¬ (65536 < data.length ∨ 65536 < key.length) by omega)]
  by_cases q2 : slCode key d = 0
  · obtain ⟨p1, p2, p3⟩ := slCode_ok q2
    have e1 := sOpenF (key := key) p2 p3 (by omega)
    obtain ⟨r1, r2⟩ := openF_ep key d
    have w : wi ((openF key d).1 + 1) = (openF key d).1 + 1 := wi_of (by omega) (by omega)
    rw [if_pos q2]
    by_cases q3 : data.length ≤ 170
    · by_cases q4 : (openF key d).1 = 4294967295
      · rw [if_neg (show ¬ (data.length ≤ 170 ∧ (openF key d).1 ≠ 4294967295) from fun h => h.2 q4)]
        simp (disch := omega) only [dec_f, cond_true, cond_false, Option.bind_some, beq_ti, bne_fi, q2, e1]
      · rw [if_pos (show data.length ≤ 170 ∧ (openF key d).1 ≠ 4294967295 from ⟨q3, q4⟩)]
        have hs := sSlotBytes (key := key) (place := ((openF key d).1 + 1).tmod 2) (e := (openF key d).1 + 1) (b := data) (by omega) (by omega)
        unfold g_ev
        simp (disch := omega) only [dec_f, cond_false, Option.bind_some, wi_of, beq_fi, bne_fi, q2, e1, hs, planF]
    · rw [if_neg (show ¬ (data.length ≤ 170 ∧ (openF key d).1 ≠ 4294967295) from fun h => q3 h.1)]
      simp (disch := omega) only [dec_t, dec_f, cond_true, cond_false, Option.bind_some, bne_fi, q2]
  · rw [if_neg q2]
    simp (disch := omega) only [dec_f, cond_true, cond_false, Option.bind_some, bne_ti]
theorem slotPlanF_bd (key : List UInt8) (d : DiskT) (data : List UInt8) : bdDiskActS 1000000 (slotPlanF key d data).1 := by
  unfold slotPlanF
  split
  · exact ⟨by simp, by simp⟩
  · split
    · split
      · rename_i h
        exact planF_bd _ _ _ h.1
      · exact ⟨by simp, by simp⟩
    · exact ⟨by simp, by simp⟩
end Go.Vm
namespace Go.Vm
def doF (d : DiskT) (l : List ActT) : DiskT := l.foldl (fun d a => (dStep d a).1) d
theorem doF_ok : ∀ (l : List ActT) {d : DiskT}, OkD d → OkD (doF d l)
  | [], _, h => h
  | a :: l, d, h => doF_ok l (dStep_ok h a)
theorem iDo (c : List ActT) (hc : c.length ≤ 1000000) (hb : ∀ a ∈ c, a.2.2.1.length ≤ 2000000 ∧ a.2.2.2.1.length ≤ 2000000) : ∀ (n k : Nat) (d : DiskT), OkD d → c.length ≤ k + n - 1 → 0 < n → k ≤ c.length →
    g_am.l6 N0 n c (c.length : Int) (k : Int) d.1 d.2.1 d.2.2 = some (doF d (c.drop k))
  | 0, _, _, _, _, h, _ => by omega
  | n + 1, k, d, hd, hn, _, hk => by
    unfold g_am.l6
    by_cases h : k < c.length
    · have hm := hb c[k] (List.getElem_mem h)
      have e := act_eq hN0 hd c[k] hm.1 hm.2
      have ih := iDo c hc hb n (k + 1) (dStep d c[k]).1 (dStep_ok hd _) (by omega) (by omega) (by omega)
      have e2 : g_ae N0 (d.1, d.2.1, d.2.2) c[k] = some (dStep d c[k]) := e
      rw [List.drop_eq_getElem_cons h]
      simp (disch := omega) only [dec_t, cond_true, gd_true, Int.toNat_natCast, get_t, Option.bind_some, bind_id, nc1, wi_of, e2, ih, doF, List.foldl_cons]
    · have hk2 : k = c.length := by omega
      simp (disch := omega) only [dec_t, dec_f, cond_false, gd_true, Int.toNat_natCast, bind_id, nc1, wi_of, List.drop_of_length_le, doF, List.foldl_nil]
theorem sDo_l (c : List ActT) (hc : c.length ≤ 1000000) (hb : ∀ a ∈ c, a.2.2.1.length ≤ 2000000 ∧ a.2.2.2.1.length ≤ 2000000) : ∀ (n k : Nat) (d : DiskT), OkD d → c.length ≤ k + n - 1 → 0 < n → k ≤ c.length →
    g_es.l2 N0 n c (k : Int) d.1 d.2.1 d.2.2 = some (doF d (c.drop k))
  | 0, _, _, _, _, h, _ => by omega
  | n + 1, k, d, hd, hn, _, hk => by
    unfold g_es.l2
    by_cases h : k < c.length
    · have hm := hb c[k] (List.getElem_mem h)
      have e := step_eq2 hN0 hd c[k] hm.1 hm.2
      have ih := sDo_l c hc hb n (k + 1) (dStep d c[k]).1 (dStep_ok hd _) (by omega) (by omega) (by omega)
      have e2 : g_eo N0 (d.1, d.2.1, d.2.2) c[k] = some (dStep d c[k]) := e
      rw [List.drop_eq_getElem_cons h]
      simp (disch := omega) only [dec_t, cond_true, gd_true, Int.toNat_natCast, get_t, Option.bind_some, bind_id, nc1, wi_of, e2, ih, doF, List.foldl_cons]
    · have hk2 : k = c.length := by omega
      simp (disch := omega) only [dec_t, dec_f, cond_false, gd_true, Int.toNat_natCast, bind_id, nc1, wi_of, List.drop_of_length_le, doF, List.foldl_nil]
theorem iSlotPlanZ {key data : List UInt8} {d : DiskT} (h1 : d.1.length ≤ 1048576) (h2 : d.2.1.length ≤ 1048576) (h3 : d.2.2.length ≤ 1048576) (hk : key.length ≤ 1048576) (hd : data.length ≤ 1048576) : g_ao N0 key d data = some (slotPlanF key d data) := by
  unfold g_ao slotPlanF
  rw [isLongS_eq hN0 data, iSlCode h1 h2 h3]
  by_cases q0 : 65536 < data.length
  · rw [if_pos (show 65536 < data.length ∨ 65536 < key.length from .inl q0)]
    simp (disch := omega) only [dec_t, cond_true, Option.bind_some]
  by_cases q1 : 65536 < key.length
  · rw [if_pos (show 65536 < data.length ∨ 65536 < key.length from .inr q1)]
    simp (disch := omega) only [dec_f, cond_true, cond_false, Option.bind_some, bne_ti, if_pos q1]
  rw [if_neg (show ¬ (65536 < data.length ∨ 65536 < key.length) by omega)]
  by_cases q2 : slCode key d = 0
  · obtain ⟨p1, p2, p3⟩ := slCode_ok q2
    have e1 := iOpenF (key := key) p2 p3 (by omega)
    obtain ⟨r1, r2⟩ := openF_ep key d
    have w : wi ((openF key d).1 + 1) = (openF key d).1 + 1 := wi_of (by omega) (by omega)
    rw [if_pos q2]
    by_cases q3 : data.length ≤ 170 ∧ (openF key d).1 ≠ 4294967295
    · have ok : slotOK ((openF key d).1 + 1) data = true := by
        simp only [slotOK, Bool.and_eq_true, decide_eq_true_eq]
        exact ⟨⟨by omega, by omega⟩, q3.1⟩
      rw [if_pos q3]
      have hs := iSlotBytes (key := key) (place := ((openF key d).1 + 1).tmod 2) (e := (openF key d).1 + 1) (b := data) (by omega) (by omega)
      simp (disch := omega) only [dec_f, cond_false, Bool.not_true, Option.bind_some, wi_of, bne_fi, if_neg q1, q2, e1, iSlotOK, ok, hs, planF]
    · have ok : slotOK ((openF key d).1 + 1) data = false := by
        rw [Bool.eq_false_iff]
        intro h
        simp only [slotOK, Bool.and_eq_true, decide_eq_true_eq] at h
        exact q3 ⟨h.2, by omega⟩
      rw [if_neg q3]
      simp (disch := omega) only [dec_f, cond_true, cond_false, Bool.not_false, Option.bind_some, wi_of, bne_fi, if_neg q1, q2, e1, iSlotOK, ok]
  · rw [if_neg q2]
    simp (disch := omega) only [dec_f, cond_true, cond_false, Option.bind_some, bne_ti, if_neg q1]
theorem slotPlanF_ok {key : List UInt8} {d : DiskT} {data : List UInt8} (h : (slotPlanF key d data).2 = 0) : OkD d := by
  unfold slotPlanF at h
  split at h
  · simp at h
  · split at h
    · rename_i q
      exact (slCode_ok q).2.1
    · rename_i q
      exact absurd h q
def saveF (key : List UInt8) (d : DiskT) (data : List UInt8) : DiskT × Int := if (slotPlanF key d data).2 = 0 then (doF d (slotPlanF key d data).1, 0) else (([], [], []), (slotPlanF key d data).2)
theorem plan_bds (key : List UInt8) (d : DiskT) (data : List UInt8) : (slotPlanF key d data).1.length ≤ 1000000 ∧ ∀ a ∈ (slotPlanF key d data).1, a.2.2.1.length ≤ 2000000 ∧ a.2.2.2.1.length ≤ 2000000 := by
  have b := slotPlanF_bd key d data
  refine ⟨b.1, fun a ha => ?_⟩
  obtain ⟨c1, c2⟩ := b.2 a ha
  have c3 : a.2.2.2.1.length ≤ 1000000 := c2
  exact ⟨by omega, by omega⟩
theorem iSave {key data : List UInt8} {d : DiskT} (h1 : d.1.length ≤ 1048576) (h2 : d.2.1.length ≤ 1048576) (h3 : d.2.2.length ≤ 1048576) (hk : key.length ≤ 1048576) (hd : data.length ≤ 1048576) : g_am N0 key d data = some (saveF key d data) := by
  unfold g_am saveF
  rw [iSlotPlanZ h1 h2 h3 hk hd, Option.bind_some]
  by_cases q : (slotPlanF key d data).2 = 0
  · have ok := slotPlanF_ok q
    obtain ⟨c1, c2⟩ := plan_bds key d data
    have e := iDo (slotPlanF key d data).1 c1 c2 N0 0 d ok (by unfold N0; omega) (by decide) (by omega)
    rw [Int.natCast_zero, List.drop_zero] at e
    have ok2 := doF_ok (slotPlanF key d data).1 ok
    rw [if_pos q]
    simp (disch := omega) only [cond_false, Option.bind_some, bne_fi, q, dOwn N0 ok, e, dOwn N0 ok2]
  · rw [if_neg q]
    simp (disch := omega) only [cond_true, bne_ti]
theorem sSave {key data : List UInt8} {d : DiskT} (h1 : d.1.length ≤ 1048576) (h2 : d.2.1.length ≤ 1048576) (h3 : d.2.2.length ≤ 1048576) (hk : key.length ≤ 1048576) (hd : data.length ≤ 1048576) : g_di N0 key d data = some (saveF key d data) := by
  have e0 := sSlotPlan (key := key) (data := data) (d := d) h1 h2 h3 hk hd
  unfold g_di saveF
  by_cases q1 : 65536 < key.length
  · have p : slotPlanF key d data = ([], 2) := by unfold slotPlanF; rw [if_pos (show 65536 < data.length ∨ 65536 < key.length from .inr q1)]
    rw [p, if_neg (by decide)]
    simp (disch := omega) only [dec_t, cond_true]
  by_cases q0 : 65536 < data.length
  · have p : slotPlanF key d data = ([], 2) := by unfold slotPlanF; rw [if_pos (show 65536 < data.length ∨ 65536 < key.length from .inl q0)]
    rw [p, if_neg (by decide)]
    simp (disch := omega) only [dec_t, dec_f, cond_true, cond_false]
  by_cases q : (slotPlanF key d data).2 = 0
  · have ok := slotPlanF_ok q
    obtain ⟨c1, c2⟩ := plan_bds key d data
    have e := sDo_l (slotPlanF key d data).1 c1 c2 N0 0 d ok (by unfold N0; omega) (by decide) (by omega)
    rw [Int.natCast_zero, List.drop_zero] at e
    have ok2 := doF_ok (slotPlanF key d data).1 ok
    rw [if_pos q]
    unfold g_es
    simp (disch := omega) only [dec_f, cond_false, Option.bind_some, bind_id, bne_fi, e0, q, e, dOwnS N0 ok2]
  · rw [if_neg q]
    simp (disch := omega) only [dec_f, cond_true, cond_false, Option.bind_some, bne_ti, e0]
theorem OkD_bd {d : DiskT} (h : OkD d) : bdDisk 1000000000 d := by
  have a1 := h.b2; have a2 := h.c1; have a3 := h.s3
  exact ⟨⟨by omega, fun y hy => by have := h.b3 y hy; omega⟩, ⟨by omega, fun y hy => by have := (h.c2 y hy).2.2; show y.2.length ≤ 1000000000; omega⟩, ⟨by omega, fun y hy => by have := h.s2 y hy; omega⟩⟩
theorem saveF_bd (key : List UInt8) (d : DiskT) (data : List UInt8) : bdDisk 1000000000 (saveF key d data).1 := by
  unfold saveF
  split
  · rename_i q
    exact OkD_bd (doF_ok _ (slotPlanF_ok q))
  · exact ⟨⟨by simp, by simp⟩, ⟨by simp, by simp⟩, ⟨by simp, by simp⟩⟩
theorem FnExactSaveSlot_true (key : List UInt8) (d : DiskT) (data : List UInt8) (h1 : bdDisk 9223372036854775807 d) : g_cb N0 key d data = some true := by
  unfold g_cb
  by_cases q0 : key.length > 1048576
  · simp (disch := omega) only [dec_t, cond_true]
  by_cases q00 : data.length > 1048576
  · simp (disch := omega) only [dec_t, dec_f, cond_true, cond_false]
  obtain ⟨r1, e1, k1⟩ := szDisk_eq hN0 d 1048576 (by omega) (by omega) h1
  by_cases q1 : r1 < 0
  · simp (disch := omega) only [dec_t, dec_f, cond_true, cond_false, Option.bind_some, e1]
  obtain ⟨k1a, k1b⟩ := k1 (by omega)
  have b1 := bdDisk_mono (show 1048576 ≤ 1000000000 by omega) k1b
  have t1 := toDisk_eq hN0 d b1
  have g2 := eqDisk_eq hN0 d d b1
  have f1 := iSave (key := key) (data := data) (d := d) k1b.1.1 k1b.2.1.1 k1b.2.2.1 (by omega) (by omega)
  have f2 := sSave (key := key) (data := data) (d := d) k1b.1.1 k1b.2.1.1 k1b.2.2.1 (by omega) (by omega)
  have b3 := saveF_bd key d data
  have g3 := eqDisk_eq hN0 (saveF key d data).1 (saveF key d data).1 b3
  obtain ⟨o1, o2, o3, k, m1, m2, m3, m4⟩ := Disk_held hN0 d 1 (by omega) b1
  obtain ⟨p1, p2, p3, k2, n1, n2, n3, n4⟩ := Disk_held hN0 (saveF key d data).1 1 (by omega) b3
  rw [show ((1 : Nat) : Int) = 1 from rfl] at m1 n1 n4
  simp (disch := omega) only [dec_f, decide_true, cond_false, Bool.not_true, Option.bind_some, e1, t1, f1, f2, g2, g3, m1, n1, n4, decide_true, bne_self_eq_false]
theorem law_FnExactSaveSlot (key : List UInt8) (d : DiskT) (data : List UInt8) {p q : Prop} (_ : p) (h1 : InR (.st (.pair (.sl .str) (.pair (.sl (.st (.pair (.int .i64) .str))) (.sl .str)))) d) (_ : q) : ∃ N, g_cb N key d data = some true :=
  ⟨N0, FnExactSaveSlot_true key d data ⟨h1.1, ⟨h1.2.1.1, fun y hy => (h1.2.1.2 y hy).2⟩, h1.2.2⟩⟩
end Go.Vm

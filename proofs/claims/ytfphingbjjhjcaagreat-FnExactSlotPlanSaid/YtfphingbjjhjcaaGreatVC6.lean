/- A part of the proof: an abstract machine, mirrors and their laws, one text behind the other. -/
import Derived.Test.YtfphingbjjhjcaaGreatVC5
/- CTR, drawn keys, tags, seals: the program's and the reference's. -/
set_option linter.unusedVariables false
set_option maxRecDepth 100000
namespace Go.Vm
theorem hN0 : 18446744073709551616 ≤ N0 := Nat.le_refl _
theorem iFour (x : Int) : g_an N0 x 4 = some (bytesN 4 x) := bytesOf_eq hN0 x 4 (by omega)
theorem iOne (x : Int) : g_an N0 x 1 = some [wb x] := bytesOf_eq hN0 x 1 (by omega)
theorem sFourB (x : Int) : g_ds N0 x = some (bytesN 4 x) := by rw [bytesN4]; rfl
/-- The stream's i-th byte. -/
def strm (K : List (List UInt8)) (nonce : List UInt8) (i : Nat) : UInt8 := (aesB K (nonce ++ bytesN 4 ((i / 16 + 1 : Nat) : Int)))[i % 16]?.getD 0
def ctrF (K : List (List UInt8)) (nonce b : List UInt8) : List UInt8 := b.mapIdx fun i x => xb x (strm K nonce i)
theorem ctrF_len (K : List (List UInt8)) (nonce b : List UInt8) : (ctrF K nonce b).length = b.length := by simp [ctrF]
theorem ctrF_get {K : List (List UInt8)} {nonce b : List UInt8} {i : Nat} (h : i < b.length) : (ctrF K nonce b)[i]'(by rw [ctrF_len]; exact h) = xb b[i] (strm K nonce i) := by simp [ctrF]
/-- .. put on up to q. -/
def ctrQ (K : List (List UInt8)) (nonce b : List UInt8) (q : Nat) : List UInt8 := (ctrF K nonce b).take q ++ b.drop q
theorem ctrQ_len (K : List (List UInt8)) (nonce b : List UInt8) (q : Nat) : (ctrQ K nonce b q).length = b.length := by simp [ctrQ, ctrF_len]; omega
theorem ctrQ_end {K : List (List UInt8)} {nonce b : List UInt8} {q : Nat} (h : b.length ≤ q) : ctrQ K nonce b q = ctrF K nonce b := by
  unfold ctrQ
  rw [List.take_of_length_le (by rw [ctrF_len]; exact h), List.drop_of_length_le h, List.append_nil]
theorem ctrQ_min (K : List (List UInt8)) (nonce b : List UInt8) (q : Nat) : ctrQ K nonce b (min q b.length) = ctrQ K nonce b q := by
  by_cases h : q ≤ b.length
  · rw [Nat.min_eq_left h]
  · rw [Nat.min_eq_right (by omega), ctrQ_end (Nat.le_refl _), ctrQ_end (by omega)]
theorem ctrQ_step {K : List (List UInt8)} {nonce b : List UInt8} {q : Nat} (h : q < b.length) : (ctrQ K nonce b q)[q]? = some b[q] ∧ (ctrQ K nonce b q).set q (xb b[q] (strm K nonce q)) = ctrQ K nonce b (q + 1) := by
  have hl := ctrF_len K nonce b
  refine ⟨get_step (xs := ctrF K nonce b) (z := b) (by omega) hl.symm, ?_⟩
  have := set_step (xs := ctrF K nonce b) (z := b) (k := q) (by omega) hl.symm
  rw [ctrF_get h] at this
  exact this
theorem strm_get {K : List (List UInt8)} {nonce : List UInt8} {j q : Nat} {kb : List UInt8} (hkb : kb = aesB K (nonce ++ bytesN 4 ((j + 1 : Nat) : Int))) (hl : kb.length = 16) (h1 : 16 * j ≤ q) (h2 : q < 16 * j + 16) : kb[q - 16 * j]? = some (strm K nonce q) := by
  unfold strm
  rw [show q / 16 = j by omega, ← hkb, show q % 16 = q - 16 * j by omega, get_t (by omega)]; rfl
theorem ctr_l8 {T U nonce b kb : List UInt8} {K : List (List UInt8)} {j : Nat} (hb : b.length ≤ 1000000000) (hkb : kb = aesB K (nonce ++ bytesN 4 ((j + 1 : Nat) : Int))) (hl : kb.length = 16) (hj : 16 * j < b.length) : ∀ (n q : Nat), min (16 * j + 16) b.length ≤ q + n - 1 → 0 < n → 16 * j ≤ q → q ≤ min (16 * j + 16) b.length →
    g_ar.l8 N0 n nonce ((16 * j : Nat) : Int) (q : Int) T U (ctrQ K nonce b q) kb K = some (T, U, ctrQ K nonce b (16 * j + 16), K)
  | 0, _, _, h, _, _ => by omega
  | n + 1, q, hn, _, hq, hq2 => by
    unfold g_ar.l8
    have hlen := ctrQ_len K nonce b q
    have hmin : (min (wi (((16 * j : Nat) : Int) + 16)) ((ctrQ K nonce b q).length : Int)) = ((min (16 * j + 16) b.length : Nat) : Int) := by rw [hlen, wi_of (by omega) (by omega)]; omega
    by_cases h : q < min (16 * j + 16) b.length
    · have hqb : q < b.length := by omega
      obtain ⟨g1, g2⟩ := ctrQ_step (K := K) (nonce := nonce) (b := b) hqb
      have g3 := strm_get hkb hl hq (by omega)
      have ih := ctr_l8 (T := T) (U := U) hb hkb hl hj n (q + 1) (by omega) (by omega) (by omega) (by omega)
      have es : ((q : Int) - ((16 * j : Nat) : Int)) = ((q - 16 * j : Nat) : Int) := by omega
      unfold xb at g2
      rw [hmin]
      simp (disch := omega) only [dec_t, cond_true, gd_true, Int.toNat_natCast, Option.bind_some, bind_id, nc1, wi_of, es, g1, g3, g2, ih]
    · have e : q = min (16 * j + 16) b.length := by omega
      rw [hmin]
      rw [e, ctrQ_min]
      simp (disch := omega) only [dec_t, dec_f, cond_false, gd_true, Int.toNat_natCast, bind_id, nc1, wi_of]
theorem ctr_l9 {nonce b kb : List UInt8} {K : List (List UInt8)} {j : Nat} (hb : b.length ≤ 1000000000) (hkb : kb = aesB K (nonce ++ bytesN 4 ((j + 1 : Nat) : Int))) (hl : kb.length = 16) (hj : 16 * j < b.length) : ∀ (n q : Nat), min (16 * j + 16) b.length ≤ q + n - 1 → 0 < n → 16 * j ≤ q → q ≤ min (16 * j + 16) b.length →
    g_dr.l9 N0 n nonce ((16 * j : Nat) : Int) kb (q : Int) SBI K (ctrQ K nonce b q) = some (SBI, K, ctrQ K nonce b (16 * j + 16))
  | 0, _, _, h, _, _ => by omega
  | n + 1, q, hn, _, hq, hq2 => by
    unfold g_dr.l9
    have hlen := ctrQ_len K nonce b q
    by_cases h : q < min (16 * j + 16) b.length
    · have hqb : q < b.length := by omega
      obtain ⟨g1, g2⟩ := ctrQ_step (K := K) (nonce := nonce) (b := b) hqb
      have g3 := strm_get hkb hl hq (by omega)
      have ih := ctr_l9 hb hkb hl hj n (q + 1) (by omega) (by omega) (by omega) (by omega)
      have es : ((q : Int) - ((16 * j : Nat) : Int)) = ((q - 16 * j : Nat) : Int) := by omega
      unfold xb at g2
      simp (disch := omega) only [dec_t, cond_true, gd_true, Int.toNat_natCast, Option.bind_some, bind_id, nc1, wi_of, es, g1, g3, g2, ih]
    · have e : q = min (16 * j + 16) b.length := by omega
      rw [e, ctrQ_min]
      by_cases h3 : 16 * j + 16 < b.length
      · have hlen2 := ctrQ_len K nonce b (16 * j + 16)
        simp (disch := omega) only [dec_t, dec_f, cond_true, cond_false, gd_true, Int.toNat_natCast, bind_id, nc1, wi_of]
      · have hlen2 := ctrQ_len K nonce b (16 * j + 16)
        simp (disch := omega) only [dec_t, dec_f, cond_false, gd_true, Int.toNat_natCast, bind_id, nc1, wi_of]
theorem ctr_l4 {U nonce b : List UInt8} {K : List (List UInt8)} (hK : ∀ k ∈ K, k.length = 16) (hKl : K.length = 15) (hno : nonce.length = 12) (hb : b.length ≤ 1000000000) : ∀ (n j : Nat), b.length ≤ j + n - 1 → 0 < n →
    g_ar.l4 N0 n nonce ((16 * j : Nat) : Int) SB U (ctrQ K nonce b (16 * j)) K = some (ctrF K nonce b)
  | 0, _, _, h => by omega
  | n + 1, j, hn, _ => by
    unfold g_ar.l4
    have hlen := ctrQ_len K nonce b (16 * j)
    by_cases h : 16 * j < b.length
    · have hbl : (nonce ++ bytesN 4 ((j + 1 : Nat) : Int)).length = 16 := by rw [List.length_append, bytesN_length, hno]
      have he := iEnc U hK (by omega) (by omega) hbl
      have hel := aesB_len hK (by omega) hbl
      have h8 := ctr_l8 (T := SB) (U := U) (K := K) (nonce := nonce) hb rfl hel h N0 (16 * j) (by unfold N0; omega) (by unfold N0; omega) (by omega) (by omega)
      have ih := ctr_l4 (U := U) hK hKl hno hb n (j + 1) (by omega) (by omega)
      have ed : Int.tdiv ((16 * j : Nat) : Int) 16 = (j : Int) := by rw [show Int.tdiv ((16 * j : Nat) : Int) 16 = ((16 * j / 16 : Nat) : Int) from rfl]; omega
      have e16 : (((16 * j : Nat) : Int) + 16) = ((16 * (j + 1) : Nat) : Int) := by omega
      have et : ((nonce ++ bytesN 4 ((j + 1 : Nat) : Int)).drop 0).take 16 = nonce ++ bytesN 4 ((j + 1 : Nat) : Int) := by rw [List.drop_zero, List.take_of_length_le (by omega)]
      have hb4 := bytesN_length 4 ((j + 1 : Nat) : Int)
      rw [show 16 * j + 16 = 16 * (j + 1) by omega] at h8
      simp (disch := omega) only [dec_t, cond_true, gd_true, Option.bind_some, bind_id, nc1, wi_of, List.length_append, ed, iFour, et, he, h8, e16, ih]
    · rw [ctrQ_end (by omega)]
      have hlen3 := ctrF_len K nonce b
      simp (disch := omega) only [dec_f, cond_false, bind_id, List.length_append]
theorem ctr_l5 {nonce b : List UInt8} {K : List (List UInt8)} (hK : ∀ k ∈ K, k.length = 16) (hKl : K.length = 15) (hno : nonce.length = 12) (hb : b.length ≤ 1000000000) : ∀ (n j : Nat), b.length ≤ j + n - 1 → 0 < n →
    g_dr.l5 N0 n nonce ((16 * j : Nat) : Int) SBI K (ctrQ K nonce b (16 * j)) = some (ctrF K nonce b)
  | 0, _, _, h => by omega
  | n + 1, j, hn, _ => by
    unfold g_dr.l5
    have hlen := ctrQ_len K nonce b (16 * j)
    by_cases h : 16 * j < b.length
    · have hbl : (nonce ++ bytesN 4 ((j + 1 : Nat) : Int)).length = 16 := by rw [List.length_append, bytesN_length, hno]
      have he := sEnc hK (by omega) (by omega) hbl
      have hel := aesB_len hK (by omega) hbl
      have h9 := ctr_l9 (K := K) (nonce := nonce) hb rfl hel h N0 (16 * j) (by unfold N0; omega) (by unfold N0; omega) (by omega) (by omega)
      have ih := ctr_l5 hK hKl hno hb n (j + 1) (by omega) (by omega)
      have ed : Int.tdiv ((16 * j : Nat) : Int) 16 = (j : Int) := by rw [show Int.tdiv ((16 * j : Nat) : Int) 16 = ((16 * j / 16 : Nat) : Int) from rfl]; omega
      have e16 : (((16 * j : Nat) : Int) + 16) = ((16 * (j + 1) : Nat) : Int) := by omega
      have e1 : (1 + (j : Int)) = ((j + 1 : Nat) : Int) := by omega
      have hb4 := bytesN_length 4 ((j + 1 : Nat) : Int)
      rw [show 16 * j + 16 = 16 * (j + 1) by omega] at h9
      simp (disch := omega) only [dec_t, cond_true, gd_true, Option.bind_some, bind_id, wi_of, ed, e1, sFourB, he, h9, e16, ih]
    · rw [ctrQ_end (by omega)]
      have hlen3 := ctrF_len K nonce b
      simp (disch := omega) only [dec_f, cond_false, bind_id]
theorem iCtr {key nonce b : List UInt8} (hk : key.length = 32) (hno : nonce.length = 12) (hb : b.length ≤ 1000000000) : g_ar N0 key nonce b = some (ctrF (keysOf key) nonce b) := by
  obtain ⟨U, e⟩ := iCipher hk
  obtain ⟨k1, k2⟩ := keysOf_spec hk
  have e4 := ctr_l4 (U := U) (b := b) k2 k1 hno hb N0 0 (by unfold N0; omega) (by unfold N0; omega)
  have hq : ctrQ (keysOf key) nonce b 0 = b := by simp [ctrQ]
  rw [show 16 * 0 = 0 from rfl, hq, Int.natCast_zero] at e4
  have hc : g_aa N0 b = some b := by
    unfold g_aa g_ab
    cases b with
    | nil => rfl
    | cons x l =>
      rw [show (x :: l).isEmpty = false from rfl, cond_false, cond_false, gd_t (room_t (by omega))]
      rfl
  unfold g_ar
  simp only [e, hc, e4, Option.bind_some]
theorem sCtr {key nonce b : List UInt8} (hk : key.length = 32) (hno : nonce.length = 12) (hb : b.length ≤ 1000000000) : g_dr N0 key nonce b = some (ctrF (keysOf key) nonce b) := by
  obtain ⟨k1, k2⟩ := keysOf_spec hk
  have e5 := ctr_l5 (b := b) k2 k1 hno hb N0 0 (by unfold N0; omega) (by unfold N0; omega)
  have hq : ctrQ (keysOf key) nonce b 0 = b := by simp [ctrQ]
  rw [show 16 * 0 = 0 from rfl, hq, Int.natCast_zero] at e5
  unfold g_dr
  rw [List.nil_append]
  simp (disch := omega) only [gd_true, Option.bind_some, bind_id, room_t, sTab, sKeys hk, e5]
/-! ### Drawn keys -/
def exp1 (key info : List UInt8) : List UInt8 := hmac key (info ++ [wb 1])
def exp2 (key info : List UInt8) : List UInt8 := exp1 key info ++ hmac key (exp1 key info ++ info ++ [wb (1 + 1)])
theorem exp2_len (key info : List UInt8) : (exp2 key info).length = 64 := by simp only [exp2, exp1, List.length_append, hmac_length]
theorem exp_l3 {key info : List UInt8} (hk : key.length ≤ 1000000) (hi : info.length ≤ 1000) (n : Nat) : g_at.l3 N0 (n + 3) key info 64 [] [] 1 = some (exp2 key info) := by
  have h1 := iHmac hN0 key (info ++ [wb 1]) (by omega) (by simp; omega)
  have hl1 := hmac_length key (info ++ [wb 1])
  have h2 := iHmac hN0 key (exp1 key info ++ info ++ [wb (1 + 1)]) (by omega) (by simp [exp1, hmac_length]; omega)
  have hl2 := hmac_length key (exp1 key info ++ info ++ [wb (1 + 1)])
  unfold exp1 at h2 hl2
  simp (disch := omega) only [g_at.l3, List.nil_append, iOne, h1, hl1, h2, hl2, exp2, exp1, dec_t, dec_f, cond_true, cond_false, gd_true, Option.bind_some, bind_id, wi_of, List.length_append, List.length_cons, List.length_nil]
theorem exp_l4 {key info : List UInt8} (hk : key.length ≤ 1000000) (hi : info.length ≤ 1000) (n : Nat) : g_dv.l4 N0 (n + 3) key info 64 [] [] 1 = some (exp2 key info) := by
  have h1 := sHmac hN0 key (info ++ [wb 1]) (by omega) (by simp; omega)
  have hl1 := hmac_length key (info ++ [wb 1])
  have h2 := sHmac hN0 key (exp1 key info ++ info ++ [wb (1 + 1)]) (by omega) (by simp [exp1, hmac_length]; omega)
  have hl2 := hmac_length key (exp1 key info ++ info ++ [wb (1 + 1)])
  unfold exp1 at h2 hl2
  simp (disch := omega) only [g_dv.l4, List.nil_append, h1, hl1, h2, hl2, exp2, exp1, dec_t, dec_f, cond_true, cond_false, gd_true, Option.bind_some, bind_id, wi_of, room_t, List.length_append, List.length_cons, List.length_nil]
def sealW : List UInt8 := [115, 101, 97, 108]
def keysW : List UInt8 := [107, 101, 121, 115]
def key1 (key : List UInt8) : List UInt8 := (exp2 (hmac sealW key) keysW).take 32
def key2 (key : List UInt8) : List UInt8 := (exp2 (hmac sealW key) keysW).drop 32
theorem key1_len (key : List UInt8) : (key1 key).length = 32 := by simp [key1, exp2_len]
theorem key2_len (key : List UInt8) : (key2 key).length = 32 := by simp [key2, exp2_len]
theorem iSealKeys {key : List UInt8} (hk : key.length ≤ 1000000) : g_bk N0 key = some (key1 key, key2 key) := by
  have h1 := iHmac hN0 sealW key (by simp [sealW]) (by omega)
  unfold sealW at h1
  have hl := hmac_length sealW key
  have h2 := exp_l3 (key := hmac sealW key) (info := keysW) (by omega) (by simp [keysW]) 18446744073709551613
  have hl2 := exp2_len (hmac sealW key) keysW
  unfold g_bk g_at
  rw [show (18446744073709551613 + 3 : Nat) = N0 from rfl] at h2
  unfold key1 key2
  unfold sealW keysW at h2 hl2 ⊢
  have e64 : Int.toNat 64 = 64 := rfl
  have ht : (exp2 (hmac [115, 101, 97, 108] key) [107, 101, 121, 115]).take 64 = exp2 (hmac [115, 101, 97, 108] key) [107, 101, 121, 115] := List.take_of_length_le (by omega)
  simp (disch := omega) only [dec_t, gd_true, Bool.and_true, Bool.true_and, Option.bind_some, h1, h2, e64, ht, List.drop_zero, List.take_length, hl2]
theorem sSealKeys {key : List UInt8} (hk : key.length ≤ 1000000) : g_dz N0 key = some (key1 key, key2 key) := by
  have h1 := sHmac hN0 sealW key (by simp [sealW]) (by omega)
  unfold sealW at h1
  have hl := hmac_length sealW key
  have h2 := exp_l4 (key := hmac sealW key) (info := keysW) (by omega) (by simp [keysW]) 18446744073709551613
  have hl2 := exp2_len (hmac sealW key) keysW
  unfold g_dz g_dv
  rw [show (18446744073709551613 + 3 : Nat) = N0 from rfl] at h2
  unfold key1 key2
  unfold sealW keysW at h2 hl2 ⊢
  have e64 : Int.toNat 64 = 64 := rfl
  have ht : (exp2 (hmac [115, 101, 97, 108] key) [107, 101, 121, 115]).take 64 = exp2 (hmac [115, 101, 97, 108] key) [107, 101, 121, 115] := List.take_of_length_le (by omega)
  simp (disch := omega) only [dec_t, gd_true, Bool.and_true, Bool.true_and, Option.bind_some, h1, h2, e64, ht, List.drop_zero, List.take_length, hl2]
/-! ### Tags, seals -/
def tagF (key nonce extra b : List UInt8) : List UInt8 := (hmac key (nonce ++ bytesN 4 (extra.length : Int) ++ extra ++ b)).take 16
theorem tagF_len (key nonce extra b : List UInt8) : (tagF key nonce extra b).length = 16 := by simp [tagF, hmac_length]
theorem iTag {key nonce extra b : List UInt8} (hk : key.length ≤ 1000000) (hno : nonce.length ≤ 1000000) (he : extra.length ≤ 1000000) (hb : b.length ≤ 1000000000) : g_bp N0 key nonce extra b = some (tagF key nonce extra b) := by
  have hb4 := bytesN_length 4 (extra.length : Int)
  have h1 := iHmac hN0 key (nonce ++ bytesN 4 (extra.length : Int) ++ extra ++ b) (by omega) (by simp [hb4]; omega)
  have hl := hmac_length key (nonce ++ bytesN 4 (extra.length : Int) ++ extra ++ b)
  unfold g_bp tagF
  simp (disch := omega) only [dec_t, gd_true, Bool.true_and, Option.bind_some, List.length_append, iFour, h1, List.drop_zero]
theorem sTag {key nonce extra b : List UInt8} (hk : key.length ≤ 1000000) (hno : nonce.length ≤ 1000000) (he : extra.length ≤ 1000000) (hb : b.length ≤ 1000000000) : g_ed N0 key nonce extra b = some (tagF key nonce extra b) := by
  have hb4 := bytesN_length 4 (extra.length : Int)
  have h1 := sHmac hN0 key (nonce ++ bytesN 4 (extra.length : Int) ++ extra ++ b) (by omega) (by simp [hb4]; omega)
  have hl := hmac_length key (nonce ++ bytesN 4 (extra.length : Int) ++ extra ++ b)
  unfold g_ed tagF
  simp (disch := omega) only [dec_t, gd_true, Bool.true_and, Option.bind_some, room_t, List.length_append, sFourB, h1, List.drop_zero]
def unsF (key nonce extra b : List UInt8) : List UInt8 × Bool :=
  if b.length < 16 then ([], false) else if tagF (key2 key) nonce extra (b.take (b.length - 16)) = b.drop (b.length - 16) then (ctrF (keysOf (key1 key)) nonce (b.take (b.length - 16)), true) else ([], false)
theorem iUnseal {key nonce extra b : List UInt8} (hk : key.length ≤ 1000000) (hno : nonce.length = 12) (he : extra.length ≤ 1000000) (hb : b.length ≤ 1000000000) : g_bs N0 key nonce extra b = some (unsF key nonce extra b) := by
  unfold g_bs unsF
  by_cases h : b.length < 16
  · rw [if_pos h]; simp (disch := omega) only [dec_t, dec_f, cond_true, gd_true, Bool.and_self, Int.toNat_natCast, wi_of, List.length_take, List.length_drop]
  · rw [if_neg h]
    have es : ((b.length : Int) - 16) = ((b.length - 16 : Nat) : Int) := by omega
    have ht := iTag (key := key2 key) (nonce := nonce) (extra := extra) (b := b.take (b.length - 16)) (by rw [key2_len]; omega) (by omega) he (by simp; omega)
    have hc := iCtr (key := key1 key) (nonce := nonce) (b := b.take (b.length - 16)) (key1_len key) hno (by simp; omega)
    have hm : min (b.length - 16) b.length = b.length - 16 := by omega
    by_cases hq : tagF (key2 key) nonce extra (b.take (b.length - 16)) = b.drop (b.length - 16)
    · rw [if_pos hq]
      simp (disch := omega) only [dec_t, dec_f, cond_false, gd_true, Bool.not_true, Bool.and_self, Int.toNat_natCast, Option.bind_some, wi_of, List.length_take, es, iSealKeys hk, List.drop_zero, List.take_length, ht, hm, hq, beq_self_eq_true, hc]
    · rw [if_neg hq]
      have hq2 : (tagF (key2 key) nonce extra (b.take (b.length - 16)) == b.drop (b.length - 16)) = false := by simpa using hq
      simp (disch := omega) only [dec_t, dec_f, cond_true, cond_false, gd_true, Bool.not_false, Bool.and_self, Int.toNat_natCast, Option.bind_some, wi_of, List.length_take, es, iSealKeys hk, List.drop_zero, List.take_length, ht, hm, hq2]
theorem sOpen {key nonce extra b : List UInt8} (hk : key.length ≤ 1000000) (hno : nonce.length = 12) (he : extra.length ≤ 1000000) (hb : b.length ≤ 1000000000) : g_eb N0 key nonce extra b = some (unsF key nonce extra b) := by
  unfold g_eb unsF
  by_cases h : b.length < 16
  · rw [if_pos h]; simp (disch := omega) only [dec_t, dec_f, cond_true, gd_true, Bool.and_self, wi_of]
  · rw [if_neg h]
    have es : ((b.length : Int) - 16) = ((b.length - 16 : Nat) : Int) := by omega
    have ht := sTag (key := key2 key) (nonce := nonce) (extra := extra) (b := b.take (b.length - 16)) (by rw [key2_len]; omega) (by omega) he (by simp; omega)
    have hc := sCtr (key := key1 key) (nonce := nonce) (b := b.take (b.length - 16)) (key1_len key) hno (by simp; omega)
    by_cases hq : tagF (key2 key) nonce extra (b.take (b.length - 16)) = b.drop (b.length - 16)
    · rw [if_pos hq]
      simp (disch := omega) only [dec_t, dec_f, cond_false, gd_true, Bool.not_true, Bool.and_self, Int.toNat_natCast, Option.bind_some, wi_of, es, sSealKeys hk, List.drop_zero, List.take_length, ht, hq, beq_self_eq_true, hc]
    · rw [if_neg hq]
      have hq2 : (tagF (key2 key) nonce extra (b.take (b.length - 16)) == b.drop (b.length - 16)) = false := by simpa using hq
      simp (disch := omega) only [dec_t, dec_f, cond_true, cond_false, gd_true, Bool.not_false, Bool.and_self, Int.toNat_natCast, Option.bind_some, wi_of, es, sSealKeys hk, List.drop_zero, List.take_length, ht, hq2]
end Go.Vm
/- Disks: what the program and the reference do, in plain words. -/
set_option linter.unusedVariables false
set_option maxRecDepth 100000
namespace Go.Vm
abbrev DiskT := List (List UInt8) × List (Int × List UInt8) × List (List UInt8)
abbrev ActT := Int × Int × List UInt8 × List Bool × Int
structure OkD (d : DiskT) : Prop where
  b1 : 1 ≤ d.1.length
  b2 : d.1.length ≤ 64
  b3 : ∀ x ∈ d.1, x.length ≤ 200
  c1 : d.2.1.length ≤ 4096
  c2 : ∀ p ∈ d.2.1, 0 ≤ p.1 ∧ p.1 < (d.1.length : Int) ∧ p.2.length ≤ 200
  s1 : d.2.2 = [] ∨ d.2.2.length = d.1.length
  s2 : ∀ x ∈ d.2.2, x.length ≤ 200
theorem OkD.s3 {d : DiskT} (h : OkD d) : d.2.2.length ≤ 64 := by
  rcases h.s1 with e | e
  · rw [e]; simp
  · rw [e]; exact h.b2
theorem dWithin (N : Nat) (x a b : Int) : g_bt N x a b = some (decide (a ≤ x) && decide (x ≤ b)) := by
  unfold g_bt
  by_cases h : a ≤ x <;> simp [h]
theorem dIn (N : Nat) (x a b : Int) : g_di N x a b = some (decide (a ≤ x) && decide (x ≤ b)) := by
  unfold g_di
  by_cases h : a ≤ x <;> simp [h]
end Go.Vm
/- Disks: an act. -/
set_option linter.unusedVariables false
set_option maxRecDepth 100000
namespace Go.Vm
end Go.Vm
/- Disks: runs, reading, comparing. -/
set_option linter.unusedVariables false
set_option maxRecDepth 100000
namespace Go.Vm
theorem isLongS_eq {N : Nat} (hN : 18446744073709551616 ≤ N) (t : List UInt8) : g_ba N [t] = some (decide (65536 < t.length)) := by
  have key : ∀ n c0 c1 m, g_da.l2 N n c0 c1 m = idxL (g_bb N) n c0 c1 m := by
    intro n c0 c1
    induction n with
    | zero => intro m; rfl
    | succ n ih => intro m; simp only [g_da.l2, idxL, ih]
  unfold g_ba g_cx g_da
  rw [key, contains_eq (p := g_bb N) (q := fun r => decide ((r.length : Int) > 65536)) [t] (fun x _ => rfl) (by simp; omega) (by simp), bind_id]
  simp only [List.any_cons, List.any_nil, Bool.or_false, Option.some.injEq]
  by_cases h : 65536 < t.length
  · rw [dec_t h, dec_t (by omega)]
  · rw [dec_f h, dec_f (by omega)]
end Go.Vm
/- The program's first layer: numbers in bytes, the reader, what is within, what all are. -/
set_option linter.unusedVariables false
set_option maxRecDepth 100000
namespace Go.Vm
/-- A number out of bytes, the higher ones first. -/
def numB (l : List UInt8) : Nat := l.foldl (fun n c => n * 256 + c.toNat) 0
theorem or_byte (n : Nat) (c : UInt8) (h : n < 36028797018963968) : wi (orB 64 ((n : Int) * 2 ^ 8) (c.toNat : Int)) = ((n * 256 + c.toNat : Nat) : Int) := by
  have hc := c.toNat_lt
  rw [show ((n : Int) * 2 ^ 8) = ((n * 256 : Nat) : Int) from rfl]
  unfold orB
  have e2 : (BitVec.ofInt 64 ((n * 256 : Nat) : Int) ||| BitVec.ofInt 64 (c.toNat : Int)).toNat = n * 256 + c.toNat := by
    rw [BitVec.toNat_or]
    simp only [BitVec.ofInt_natCast, BitVec.toNat_ofNat]
    rw [Nat.mod_eq_of_lt (by omega), Nat.mod_eq_of_lt (by omega), Nat.mul_comm n 256]
    exact (Nat.two_pow_add_eq_or_of_lt (i := 8) hc n).symm
  rw [e2, wi_of] <;> omega
theorem number_l3 (N : Nat) : ∀ (n : Nat) (m k : Nat) (b : List UInt8) (f : Bool) (c : List UInt8), c.length ≤ k + n - 1 → 0 < n → k ≤ c.length → c.length ≤ 7 → m < 256 ^ k →
    g_be.l3 N n (c.length : Int) (m : Int) (k : Int) b f c = some ((((c.drop k).foldl (fun n c => n * 256 + c.toNat) m : Nat) : Int), b, f)
  | 0, _, _, _, _, _, _, h, _, _, _ => by omega
  | n + 1, m, k, b, f, c, hn, _, hk, hc, hm => by
    unfold g_be.l3
    by_cases h : k < c.length
    · have hm2 : m < 36028797018963968 := Nat.lt_of_lt_of_le hm (Nat.le_trans (Nat.pow_le_pow_right (by omega) (show k ≤ 6 by omega)) (by decide))
      simp (disch := omega) only [dec_t, cond_true, gd_true, Int.toNat_natCast, get_t, Option.bind_some, bind_id, nc1, wi_u8, wi_of, or_byte m _ hm2]
      rw [number_l3 N n _ (k + 1) b f c (by omega) (by omega) (by omega) hc (by
        have := c[k].toNat_lt
        rw [Nat.pow_succ]; omega), drop_get h]
      rfl
    · simp (disch := omega) only [dec_t, dec_f, cond_false, gd_true, Int.toNat_natCast, bind_id, nc1, wi_u8, wi_of, List.drop_of_length_le, List.foldl_nil]
/-- What is taken, and what is left. -/
def tkR (r : List UInt8 × Bool) (n : Nat) : (List UInt8 × Bool) × List UInt8 := if r.1.length < n then ((r.1, true), []) else ((r.1.drop n, r.2), r.1.take n)
theorem take_eq (N : Nat) (r : List UInt8 × Bool) (n : Nat) : g_bf N r (n : Int) = some (tkR r n) := by
  unfold g_bf tkR
  by_cases h : r.1.length < n
  · simp (disch := omega) only [dec_t, dec_f, cond_true, gd_true, Bool.and_true, Bool.true_and, Int.toNat_natCast, h, if_true]
  · simp (disch := omega) only [dec_t, dec_f, cond_false, gd_true, Bool.and_self, Int.toNat_natCast, h, if_false, List.take_length, List.drop_zero]
theorem number_eq {N : Nat} (hN : 18446744073709551616 ≤ N) (r : List UInt8 × Bool) (n : Nat) (hn : n ≤ 7) : g_be N r (n : Int) = some ((tkR r n).1, ((numB (tkR r n).2 : Nat) : Int)) := by
  unfold g_be
  rw [take_eq, Option.bind_some]
  have hl : (tkR r n).2.length ≤ 7 := by
    unfold tkR; split
    · simp
    · simp; omega
  rw [show (0 : Int) = ((0 : Nat) : Int) from rfl, number_l3 N N 0 0 _ _ _ (by omega) (by omega) (by omega) hl (by simp)]
  rfl
theorem within_eq (N : Nat) (x a b : Int) : g_bt N x a b = some (decide (a ≤ x) && decide (x ≤ b)) := by
  unfold g_bt
  by_cases h : a ≤ x <;> simp [h]
theorem l01In_eq (N : Nat) (x a b : Int) : g_di N x a b = some (decide (a ≤ x) && decide (x ≤ b)) := by
  unfold g_di
  by_cases h : a ≤ x <;> simp [h]
end Go.Vm
/- Banks: what is right, their bytes, what is read. -/
set_option linter.unusedVariables false
set_option maxRecDepth 100000
namespace Go.Vm
end Go.Vm
/- What is read of a bank's bytes, by the program and by the reference. -/
set_option linter.unusedVariables false
set_option maxRecDepth 100000
namespace Go.Vm
theorem l06Number_l3 (N : Nat) : ∀ (n : Nat) (m k : Nat) (c : List UInt8), c.length ≤ k + n - 1 → 0 < n → k ≤ c.length → c.length ≤ 7 → m < 256 ^ k →
    g_eh.l3 N n c (m : Int) (k : Int) = some (((c.drop k).foldl (fun n c => n * 256 + c.toNat) m : Nat) : Int)
  | 0, _, _, _, _, h, _, _, _ => by omega
  | n + 1, m, k, c, hn, _, hk, hc, hm => by
    unfold g_eh.l3
    by_cases h : k < c.length
    · have hm2 : m < 36028797018963968 := Nat.lt_of_lt_of_le hm (Nat.le_trans (Nat.pow_le_pow_right (by omega) (show k ≤ 6 by omega)) (by decide))
      have hc' := c[k].toNat_lt
      simp (disch := omega) only [dec_t, cond_true, gd_true, Int.toNat_natCast, get_t, Option.bind_some, bind_id, nc1, wi_u8, wi_of]
      rw [show ((m : Int) * 256 + (c[k].toNat : Int)) = ((m * 256 + c[k].toNat : Nat) : Int) by omega, l06Number_l3 N n _ (k + 1) c (by omega) (by omega) (by omega) hc (by rw [Nat.pow_succ]; omega), drop_get h]
      rfl
    · simp (disch := omega) only [dec_t, dec_f, cond_false, gd_true, Int.toNat_natCast, bind_id, nc1, wi_u8, wi_of, List.drop_of_length_le, List.foldl_nil]
theorem l06Number_eq {N : Nat} (hN : 18446744073709551616 ≤ N) (c : List UInt8) (hc : c.length ≤ 7) : g_eh N c = some ((numB c : Nat) : Int) := by
  unfold g_eh
  have := l06Number_l3 N N 0 0 c (by omega) (by omega) (by omega) hc (by simp)
  simp only [Int.natCast_zero] at this
  rw [this]; rfl
end Go.Vm
/- A bank's bytes; the program reads what the reference reads. -/
set_option linter.unusedVariables false
set_option maxRecDepth 100000
namespace Go.Vm
end Go.Vm
/- Slots: one is read. -/
set_option linter.unusedVariables false
set_option maxRecDepth 100000
namespace Go.Vm
def slotW : List UInt8 := [115, 108, 111, 116]
def nonceF (place version : Int) : List UInt8 := bytesN 4 0 ++ bytesN 4 place ++ bytesN 4 version
theorem nonceF_len (p v : Int) : (nonceF p v).length = 12 := by simp [nonceF, bytesN_length]
theorem iNonce (p v : Int) : g_bl N0 p v = some (nonceF p v) := by
  have h0 := bytesN_length 4 0; have h1 := bytesN_length 4 p; have h2 := bytesN_length 4 v
  unfold g_bl nonceF
  simp (disch := omega) only [dec_t, gd_true, Option.bind_some, List.length_append, iFour]
theorem sNonce (p v : Int) : g_ea N0 p v = some (nonceF p v) := by
  have h0 := bytesN_length 4 0; have h1 := bytesN_length 4 p; have h2 := bytesN_length 4 v
  unfold g_ea nonceF
  simp (disch := omega) only [dec_t, gd_true, Option.bind_some, List.length_append, sFourB]
def slotOK (e : Int) (d : List UInt8) : Bool := decide (1 ≤ e) && decide (e ≤ 4294967295) && decide (d.length ≤ 170)
theorem iSlotOK (N : Nat) (e : Int) (d : List UInt8) : g_ah N (e, d) = some (slotOK e d) := by
  unfold g_ah slotOK
  rw [within_eq, Option.bind_some]
  cases (decide (1 ≤ e) && decide (e ≤ 4294967295))
  · rfl
  · simp only [cond_true, Bool.true_and]
    by_cases h : d.length ≤ 170
    · rw [dec_t h, dec_t (by omega)]
    · rw [dec_f h, dec_f (by omega)]
theorem sSlotOK (N : Nat) (e : Int) (d : List UInt8) : g_dc N (e, d) = some (slotOK e d) := by
  unfold g_dc slotOK
  rw [l01In_eq, Option.bind_some]
  cases (decide (1 ≤ e) && decide (e ≤ 4294967295))
  · rfl
  · simp only [cond_true, Bool.true_and]
    by_cases h : d.length ≤ 170
    · rw [dec_t h, dec_t (by omega)]
    · rw [dec_f h, dec_f (by omega)]
/-- What a slot's bytes tell. -/
def rdSlot (key : List UInt8) (place : Int) (b : List UInt8) : Option (Int × List UInt8) :=
  if b.length < 20 then none else
    if (unsF key (nonceF place ((numB (b.take 4) : Nat) : Int)) slotW (b.drop 4)).2 = true then
      if slotOK ((numB (b.take 4) : Nat) : Int) (unsF key (nonceF place ((numB (b.take 4) : Nat) : Int)) slotW (b.drop 4)).1 = true then some (((numB (b.take 4) : Nat) : Int), (unsF key (nonceF place ((numB (b.take 4) : Nat) : Int)) slotW (b.drop 4)).1) else none
    else none
theorem unsF_short {key nonce extra b : List UInt8} (h : b.length < 16) : unsF key nonce extra b = ([], false) := by unfold unsF; rw [if_pos h]
theorem iReadSlot1 {key : List UInt8} {place : Int} {b : List UInt8} (hk : key.length ≤ 1000000) (hb : b.length ≤ 1000000000) : ∃ s ok, g_bd N0 key place b = some (s, ok) ∧ ((ok = true ∧ rdSlot key place b = some s) ∨ (ok = false ∧ rdSlot key place b = none)) := by
  unfold g_bd rdSlot
  have hn := number_eq hN0 (b, false) 4 (by omega)
  rw [show ((4 : Nat) : Int) = 4 from rfl] at hn
  rw [hn, Option.bind_some]
  have hsl : ([115, 108, 111, 116] : List UInt8) = slotW := rfl
  rw [hsl]
  by_cases h4 : b.length < 4
  · have ht : tkR (b, false) 4 = ((b, true), []) := by unfold tkR; rw [if_pos h4]
    rw [ht]
    dsimp only
    rw [if_pos (show b.length < 20 by omega), iNonce, Option.bind_some, iUnseal hk (nonceF_len _ _) (by simp [slotW]) (by omega), unsF_short (by omega)]
    exact ⟨_, false, rfl, .inr ⟨rfl, rfl⟩⟩
  · have ht : tkR (b, false) 4 = ((b.drop 4, false), b.take 4) := by unfold tkR; rw [if_neg h4]
    rw [ht]
    dsimp only
    rw [iNonce, Option.bind_some, iUnseal hk (nonceF_len _ _) (by simp [slotW]) (by simp; omega), Option.bind_some]
    by_cases h20 : b.length < 20
    · rw [if_pos h20, unsF_short (by simp; omega)]
      exact ⟨_, false, rfl, .inr ⟨rfl, rfl⟩⟩
    · rw [if_neg h20]
      cases hu : (unsF key (nonceF place ((numB (b.take 4) : Nat) : Int)) slotW (b.drop 4)).2
      · exact ⟨_, false, rfl, .inr ⟨rfl, rfl⟩⟩
      · rw [if_pos rfl]
        simp only [cond_true, Bool.not_false, iSlotOK, Option.bind_some]
        cases hs : slotOK ((numB (b.take 4) : Nat) : Int) (unsF key (nonceF place ((numB (b.take 4) : Nat) : Int)) slotW (b.drop 4)).1
        · exact ⟨_, false, rfl, .inr ⟨rfl, rfl⟩⟩
        · exact ⟨_, true, rfl, .inl ⟨rfl, rfl⟩⟩
theorem sReadSlot1 {key : List UInt8} {place : Int} {b : List UInt8} (hk : key.length ≤ 1000000) (hb : b.length ≤ 1000000000) : g_ek N0 key place b = some (match rdSlot key place b with | some s => (s, true) | none => ((0, []), false)) := by
  unfold g_ek rdSlot
  have hsl : ([115, 108, 111, 116] : List UInt8) = slotW := rfl
  rw [hsl]
  by_cases h20 : b.length < 20
  · rw [if_pos h20]; simp (disch := omega) only [dec_t, cond_true, Bool.and_true, Bool.true_and]
  · rw [if_neg h20]
    have hn := l06Number_eq hN0 (b.take 4) (by simp; omega)
    have hu := sOpen (key := key) (nonce := nonceF place ((numB (b.take 4) : Nat) : Int)) (extra := slotW) (b := b.drop 4) hk (nonceF_len _ _) (by simp [slotW]) (by simp; omega)
    cases hc : (unsF key (nonceF place ((numB (b.take 4) : Nat) : Int)) slotW (b.drop 4)).2
    · simp (disch := omega) only [dec_t, dec_f, cond_true, cond_false, gd_true, Bool.not_false, Bool.and_self, Option.bind_some, List.drop_zero, List.take_length, hn, sNonce, hu, hc, if_false, Bool.false_eq_true]
    · cases hs : slotOK ((numB (b.take 4) : Nat) : Int) (unsF key (nonceF place ((numB (b.take 4) : Nat) : Int)) slotW (b.drop 4)).1
      · simp (disch := omega) only [dec_t, dec_f, cond_true, cond_false, gd_true, Bool.not_true, Bool.not_false, Bool.and_self, Option.bind_some, List.drop_zero, List.take_length, hn, sNonce, hu, hc, if_true, sSlotOK, hs, if_false, Bool.false_eq_true]
      · simp (disch := omega) only [dec_t, dec_f, cond_false, gd_true, Bool.not_true, Bool.and_self, Option.bind_some, List.drop_zero, List.take_length, hn, sNonce, hu, hc, if_true, sSlotOK, hs]
end Go.Vm
/- Disks: which is right, what is read, which read the same. -/
set_option linter.unusedVariables false
set_option maxRecDepth 100000
namespace Go.Vm
/-- What was written last, of the first k writes. -/
def rdF (c : List (Int × List UInt8)) (at_ : Int) : Nat → Option (List UInt8)
  | 0 => none
  | k + 1 => match c[k]? with
    | some p => if p.1 = at_ then some p.2 else rdF c at_ k
    | none => rdF c at_ k
def rdD (d : DiskT) (at_ : Int) : List UInt8 := match rdF d.2.1 at_ d.2.1.length with | some v => v | none => d.1[at_.toNat]?.getD []
theorem read_g2 (N : Nat) (xs : List (Int × List UInt8)) (m0 : List (List UInt8)) (m1 : List (Int × List UInt8)) (m2 : List (List UInt8)) (at_ : Int) (m4 : List UInt8) : ∀ k, k ≤ xs.length →
    g_ag.g2 N (backsF xs k) m0 m1 m2 at_ m4 = some (match rdF xs at_ k with | some v => .inr v | none => .inl (m0, m1, m2, at_, m4))
  | 0, _ => rfl
  | k + 1, hk => by
    have h : k < xs.length := by omega
    have e : backsF xs (k + 1) = ((k : Int), xs[k]) :: backsF xs k := by simp [backsF, h]
    rw [e, rdF, get_t h]
    simp only [g_ag.g2, bind_id]
    by_cases q : xs[k].1 = at_
    · rw [beq_ti q, cond_true, if_pos q]
    · rw [beq_fi q, cond_false, if_neg q]
      exact read_g2 N xs m0 m1 m2 at_ m4 k (by omega)
theorem read_eq (N : Nat) (b : List (List UInt8)) (c : List (Int × List UInt8)) (s : List (List UInt8)) (at_ : Int) (h1 : 0 ≤ at_) (h2 : at_ < (b.length : Int)) : g_ag N (b, c, s) at_ = some (rdD (b, c, s) at_) := by
  have e := read_g2 N c b c s at_ [] c.length (Nat.le_refl _)
  unfold g_ag rdD backs
  dsimp only
  rw [e]
  have hlt : at_.toNat < b.length := by omega
  cases rdF c at_ c.length with
  | some v => simp [alt]
  | none => simp (disch := omega) only [dec_t, gd_true, alt_inl, get_t, Option.bind_some, bind_id]; rfl
end Go.Vm
/- Disks: whether a disk is right, told of any disk. -/
set_option linter.unusedVariables false
set_option maxRecDepth 100000
namespace Go.Vm
def goodP (n : Nat) (p : Int × List UInt8) : Bool := decide (0 ≤ p.1) && decide (p.1 ≤ (n : Int) - 1) && decide (p.2.length ≤ 200)
def okDB (d : DiskT) : Bool := decide (1 ≤ d.1.length) && decide (d.1.length ≤ 64) && d.1.all (fun x => decide (x.length ≤ 200)) && decide (d.2.1.length ≤ 4096) && d.2.1.all (goodP d.1.length) && (decide (d.2.2.length = 0) || decide (d.2.2.length = d.1.length)) && d.2.2.all (fun x => decide (x.length ≤ 200))
theorem okDB_spec {d : DiskT} (h : okDB d = true) : OkD d := by
  unfold okDB at h
  simp only [Bool.and_eq_true, Bool.or_eq_true, decide_eq_true_eq, List.all_eq_true, goodP] at h
  obtain ⟨⟨⟨⟨⟨⟨h1, h2⟩, h3⟩, h4⟩, h5⟩, h6⟩, h7⟩ := h
  refine ⟨h1, h2, h3, h4, fun p hp => ?_, ?_, h7⟩
  · obtain ⟨⟨q1, q2⟩, q3⟩ := h5 p hp
    exact ⟨q1, by omega, q3⟩
  · rcases h6 with q | q
    · left; exact List.length_eq_zero_iff.1 q
    · exact .inr q
theorem any_not {α : Type} (q : α → Bool) (l : List α) : (!(l.any fun x => !q x)) = l.all q := by
  induction l with
  | nil => rfl
  | cons x l ih => rw [List.any_cons, List.all_cons, ← ih]; cases q x <;> simp
theorem allBlocks_any {N : Nat} (hN : 18446744073709551616 ≤ N) (l : List (List UInt8)) (hl : l.length ≤ 140737488355328) : g_am N l = some (l.all fun x => decide (x.length ≤ 200)) := by
  have hp : ∀ a ∈ l, g_al N a = some ((fun x => !decide (x.length ≤ 200)) a) := fun a ha => by
    unfold g_al g_ay
    by_cases h : a.length ≤ 200
    · simp (disch := omega) only [dec_t, Bool.not_true, Option.bind_some]
    · simp (disch := omega) only [dec_f, Bool.not_false, Option.bind_some]
  have key : ∀ n c0 c1 m, g_cz.l2 N n c0 c1 m = idxL (g_al N) n c0 c1 m := by
    intro n c0 c1
    induction n with
    | zero => intro m; rfl
    | succ n ih => intro m; simp only [g_cz.l2, idxL, ih]
  unfold g_am g_cw g_cz
  rw [key, contains_eq (p := g_al N) (q := fun x => !decide (x.length ≤ 200)) l hp (by omega) (by omega)]
  simp only [Option.bind_some, any_not]
theorem pend_any (N : Nat) (d : DiskT) (hb : d.1.length ≤ 140737488355328) : ∀ (n k : Nat) (c : List (Int × List UInt8)), c.length ≤ k + n - 1 → 0 < n → k ≤ c.length → c.length ≤ 140737488355328 →
    g_cy.l2 N n c (c.length : Int) d (k : Int) = some (match idxF (fun p => !goodP d.1.length p) (c.drop k) k with | .inl y => .inl (d, y) | .inr _ => .inr d)
  | 0, _, _, _, h, _, _ => by omega
  | n + 1, k, c, hn, _, hk, hl => by
    unfold g_cy.l2
    by_cases h : k < c.length
    · have e : g_aj N c[k] d = some (!goodP d.1.length c[k]) := by
        unfold g_aj g_ad g_ae g_ay goodP
        simp (disch := omega) only [dWithin, Option.bind_some, wi_of]
        by_cases q1 : 0 ≤ c[k].1
        · by_cases q2 : c[k].1 ≤ (d.1.length : Int) - 1
          · by_cases q3 : c[k].2.length ≤ 200
            · simp (disch := omega) only [dec_t, cond_true, Bool.not_true, Bool.and_self, Option.bind_some]
            · simp (disch := omega) only [dec_t, dec_f, cond_true, Bool.not_false, Bool.true_and, Bool.and_self, Option.bind_some]
          · simp (disch := omega) only [dec_t, dec_f, cond_false, Bool.not_false, Option.bind_some, Bool.and_false, Bool.false_and]
        · simp (disch := omega) only [dec_t, dec_f, cond_false, Bool.not_false, Bool.and_true, Option.bind_some, Bool.false_and]
      rw [drop_get h, idxF]
      simp (disch := omega) only [dec_t, cond_true, gd_true, Int.toNat_natCast, get_t, Option.bind_some, bind_id, nc1, wi_of, e]
      cases q : goodP d.1.length c[k]
      · rfl
      · exact pend_any N d hb n (k + 1) c (by omega) (by omega) (by omega) hl
    · simp (disch := omega) only [dec_t, dec_f, cond_false, gd_true, Int.toNat_natCast, bind_id, nc1, wi_of, List.drop_of_length_le, idxF]
theorem iDiskOK_any {N : Nat} (hN : 18446744073709551616 ≤ N) (d : DiskT) (h1 : d.1.length ≤ 140737488355328) (h2 : d.2.1.length ≤ 140737488355328) (h3 : d.2.2.length ≤ 140737488355328) : g_ac N d = some (okDB d) := by
  have e := pend_any N d h1 N 0 d.2.1 (by omega) (by omega) (by omega) h2
  simp only [Int.natCast_zero, List.drop_zero] at e
  have e2 : g_ak N d.2.1 d = some (d.2.1.all (goodP d.1.length)) := by
    unfold g_ak g_cv g_cy
    rw [e, ← any_not, ← idxF_any _ d.2.1 0]
    cases idxF (fun p => !goodP d.1.length p) d.2.1 0 <;> rfl
  unfold g_ac g_az okDB
  simp only [dWithin, allBlocks_any hN d.1 h1, allBlocks_any hN d.2.2 h3, e2, Option.bind_some]
  by_cases q1 : 1 ≤ d.1.length
  · by_cases q2 : d.1.length ≤ 64
    · simp (disch := omega) only [dec_t, cond_true, Bool.true_and, Bool.and_self]
      cases d.1.all (fun x => decide (x.length ≤ 200))
      · simp only [cond_false, Bool.false_and]
      · by_cases q4 : d.2.1.length ≤ 4096
        · simp (disch := omega) only [dec_t, dec_f, cond_true, Bool.not_false, Bool.true_and, Bool.and_self]
          cases d.2.1.all (goodP d.1.length)
          · simp only [cond_false, Bool.false_and]
          · by_cases q6 : d.2.2.length = 0
            · simp (disch := omega) only [dec_t, dec_f, cond_true, cond_false, Bool.true_and, Bool.and_self, beq_ti, beq_fi, Bool.true_or]
            · by_cases q7 : d.2.2.length = d.1.length
              · simp (disch := omega) only [dec_t, dec_f, cond_true, cond_false, Bool.true_and, Bool.and_self, beq_ti, beq_fi, Bool.false_or]
              · simp (disch := omega) only [dec_f, cond_true, cond_false, Bool.true_and, beq_fi, Bool.or_self, Bool.false_and]
        · simp (disch := omega) only [dec_t, dec_f, cond_true, cond_false, Bool.not_true, Bool.true_and, Bool.false_and]
    · simp (disch := omega) only [dec_t, dec_f, cond_false, Bool.and_false, Bool.false_and]
  · simp (disch := omega) only [dec_t, dec_f, cond_false, Bool.and_true, Bool.false_and]
end Go.Vm
/- The laws' own helpers: marks, sizes. -/
set_option linter.unusedVariables false
set_option maxRecDepth 100000
namespace Go.Vm
theorem markText_some {N : Nat} (hN : 18446744073709551616 ≤ N) (k : Nat) (hk : k ≤ 9000000000000000000) : ∃ t, g_ck N (k : Int) = some t := by
  -- twenty rounds are enough
  unfold g_ck
  by_cases h : k = 0
  · subst h; exact ⟨_, by simp; rfl⟩
  · have key : ∀ (n k : Nat) (l : List UInt8), k < 10 ^ 20 → 20 < n → k ≤ 9223372036854775000 → l.length + 20 ≤ 9223372036854775807 → ∃ t, g_ck.l4 N n (k : Int) l = some t ∧ t.length ≤ l.length + 20 := by
      suffices H : ∀ (d n k : Nat) (l : List UInt8), k < 10 ^ d → d < n → k ≤ 9223372036854775000 → l.length + d ≤ 9223372036854775807 → ∃ t, g_ck.l4 N n (k : Int) l = some t ∧ t.length ≤ l.length + d from fun n k l h1 h2 h3 h4 => H 20 n k l h1 h2 h3 h4
      intro d
      induction d with
      | zero =>
        intro n k l h1 h2 h3 h4
        have : k = 0 := by simpa using h1
        subst this
        cases n with
        | zero => omega
        | succ n => exact ⟨l, by unfold g_ck.l4; simp, by omega⟩
      | succ d ih =>
        intro n k l h1 h2 h3 h4
        cases n with
        | zero => omega
        | succ n =>
          unfold g_ck.l4
          by_cases h : k = 0
          · subst h; exact ⟨l, by simp, by omega⟩
          · have e2 : (k : Int).tdiv 10 = ((k / 10 : Nat) : Int) := rfl
            have h10 : k / 10 < 10 ^ d := by rw [Nat.pow_succ] at h1; omega
            simp (disch := omega) only [dec_t, cond_true, gd_true, bind_id, wi_of, List.length_cons, List.length_nil, e2, List.singleton_append]
            obtain ⟨t, h5, h6⟩ := ih n (k / 10) (wb (wi (48 + (k : Int).tmod 10)) :: l) h10 (by omega) (by omega) (by simp; omega)
            exact ⟨t, h5, by simp at h6; omega⟩
    obtain ⟨t, h1, h2⟩ := key N k [] (by have : (10 : Nat) ^ 20 = 100000000000000000000 := by decide
                                         omega) (by omega) (by omega) (by simp)
    refine ⟨109 :: t, ?_⟩
    simp only [List.length_nil] at h2
    simp (disch := omega) only [dec_t, dec_f, cond_false, gd_true, Option.bind_some, h1, List.singleton_append]
def mtx (N m : Nat) : List UInt8 := (g_ck N (m : Int)).getD []
/-- Sizes of a list's elements. -/
def szL {α : Type} (p : α → Int → Option Int) : Nat → List α → Int → Int → Option (Int ⊕ Int)
  | 0, _, _, _ => none
  | n + 1, c0, m1, m2 =>
  bif decide (m2 < (c0.length : Int)) then
   gd (decide (0 ≤ m2)) <|
   c0[m2.toNat]?.bind fun e3 =>
   (p e3 m1).bind fun r4 =>
   bif decide (r4 < 0) then
    some (Sum.inl (-1))
   else
   (szL p n c0 r4 (wi (m2 + 1))).bind some
  else
  some (Sum.inr m1)
theorem szL_eq {α : Type} {p : α → Int → Option Int} {Q R : α → Prop} : ∀ (n : Nat) (c : List α) (k : Nat) (left : Int), (∀ x ∈ c, R x → ∀ l : Int, 0 ≤ l → l ≤ 1048576 → ∃ r, p x l = some r ∧ (0 ≤ r → r ≤ l ∧ Q x)) → (∀ x ∈ c, R x) → c.length ≤ k + n - 1 → 0 < n → k ≤ c.length → c.length ≤ 9223372036854775000 → 0 ≤ left → left ≤ 1048576 →
    szL p n c left (k : Int) = some (.inl (-1)) ∨ ∃ m : Int, szL p n c left (k : Int) = some (.inr m) ∧ 0 ≤ m ∧ m ≤ left ∧ ∀ x ∈ c.drop k, Q x
  | 0, _, _, _, _, _, _, h, _, _, _, _ => by omega
  | n + 1, c, k, left, hp, hR, hn, _, hk, hc, h0, hl => by
    unfold szL
    by_cases h : k < c.length
    · obtain ⟨r, e, hr⟩ := hp _ (List.getElem_mem h) (hR _ (List.getElem_mem h)) left h0 hl
      by_cases h3 : r < 0
      · left
        simp (disch := omega) only [dec_t, cond_true, gd_true, Int.toNat_natCast, get_t, Option.bind_some, bind_id, nc1, wi_of, e]
      · obtain ⟨h4, h5⟩ := hr (by omega)
        have := szL_eq n c (k + 1) r hp hR (by omega) (by omega) (by omega) hc (by omega) (by omega)
        rcases this with q | ⟨m, q1, q2, q3, q4⟩
        · left
          simp (disch := omega) only [dec_t, dec_f, cond_true, cond_false, gd_true, Int.toNat_natCast, get_t, Option.bind_some, bind_id, nc1, wi_of, e, q]
        · right
          refine ⟨m, by simp (disch := omega) only [dec_t, dec_f, cond_true, cond_false, gd_true, Int.toNat_natCast, get_t, Option.bind_some, bind_id, nc1, wi_of, e, q1], q2, by omega, fun x hx => ?_⟩
          rw [drop_get h] at hx
          rcases List.mem_cons.1 hx with rfl | hx
          · exact h5
          · exact q4 x hx
    · right
      refine ⟨left, by simp (disch := omega) only [dec_t, dec_f, cond_false, gd_true, Int.toNat_natCast, bind_id, nc1, wi_of], h0, by omega, fun x hx => ?_⟩
      rw [List.drop_of_length_le (by omega)] at hx
      simp at hx
end Go.Vm
/- The laws' own helpers, printed by a program of ours. -/
set_option linter.unusedVariables false
set_option maxRecDepth 100000
namespace Go.Vm
abbrev bdStringS (n : Nat) (x : List (List UInt8)) : Prop := x.length ≤ n ∧ ∀ y ∈ x, (y).length ≤ n
theorem bdStringS_mono {n m : Nat} (hm : n ≤ m) {x : List (List UInt8)} (h : bdStringS n x) : bdStringS m x := ⟨Nat.le_trans h.1 hm, fun y hy => Nat.le_trans (h.2 y hy) hm⟩
abbrev bdPending (n : Nat) (x : Int × List UInt8) : Prop := (x.2).length ≤ n
theorem bdPending_mono {n m : Nat} (hm : n ≤ m) {x : Int × List UInt8} (h : bdPending n x) : bdPending m x := Nat.le_trans h hm
abbrev bdPendingS (n : Nat) (x : List (Int × List UInt8)) : Prop := x.length ≤ n ∧ ∀ y ∈ x, bdPending n y
theorem bdPendingS_mono {n m : Nat} (hm : n ≤ m) {x : List (Int × List UInt8)} (h : bdPendingS n x) : bdPendingS m x := ⟨Nat.le_trans h.1 hm, fun y hy => bdPending_mono hm (h.2 y hy)⟩
abbrev bdDisk (n : Nat) (x : List (List UInt8) × List (Int × List UInt8) × List (List UInt8)) : Prop := bdStringS n x.1 ∧ bdPendingS n x.2.1 ∧ bdStringS n x.2.2
theorem bdDisk_mono {n m : Nat} (hm : n ≤ m) {x : List (List UInt8) × List (Int × List UInt8) × List (List UInt8)} (h : bdDisk n x) : bdDisk m x := ⟨bdStringS_mono hm h.1, bdPendingS_mono hm h.2.1, bdStringS_mono hm h.2.2⟩
theorem toStringS_l (N n : Nat) (c ys : List (List UInt8)) (k : Int) : g_cs.l3 N n c k ys = toL2 some n c k ys := by
  induction n generalizing k ys with
  | zero => rfl
  | succ n ih => simp only [g_cs.l3, toL2, ih, Option.bind_some]
theorem toStringS_eq {N : Nat} (hN : 18446744073709551616 ≤ N) (c : List (List UInt8)) (h : bdStringS 1000000000 c) : g_cs N c = some c := by
  have hl : c.length ≤ 1000000000 := h.1
  unfold g_cs
  simp (disch := omega) only [toStringS_l, dec_t, gd_true, Bool.and_self, Int.toNat_natCast, bind_id, room_t]
  rw [show (0 : Int) = ((0 : Nat) : Int) from rfl, toL2_eq (p := some) (f := id) N c 0 _ (fun _ _ => rfl) (by omega) (by omega) (by omega) (by omega) (by simp)]
  simp
theorem toPending_eq {N : Nat} (hN : 18446744073709551616 ≤ N) (c : Int × List UInt8) (h : bdPending 1000000000 c) : g_cq N c = some c := rfl
theorem toPendingS_l (N n : Nat) (c ys : List (Int × List UInt8)) (k : Int) : g_cr.l3 N n c k ys = toL2 (g_cq N) n c k ys := by
  induction n generalizing k ys with
  | zero => rfl
  | succ n ih => simp only [g_cr.l3, toL2, ih]
theorem toPendingS_eq {N : Nat} (hN : 18446744073709551616 ≤ N) (c : List (Int × List UInt8)) (h : bdPendingS 1000000000 c) : g_cr N c = some c := by
  have hl : c.length ≤ 1000000000 := h.1
  unfold g_cr
  simp (disch := omega) only [toPendingS_l, dec_t, gd_true, Bool.and_self, Int.toNat_natCast, bind_id, room_t]
  rw [show (0 : Int) = ((0 : Nat) : Int) from rfl, toL2_eq (p := (g_cq N)) (f := id) N c 0 _ (fun x hx => toPending_eq hN x (h.2 x hx)) (by omega) (by omega) (by omega) (by omega) (by simp)]
  simp
theorem toDisk_eq {N : Nat} (hN : 18446744073709551616 ≤ N) (c : List (List UInt8) × List (Int × List UInt8) × List (List UInt8)) (h : bdDisk 1000000000 c) : g_cp N c = some c := by
  unfold g_cp
  simp only [toStringS_eq hN c.1 h.1, toPendingS_eq hN c.2.1 h.2.1, toStringS_eq hN c.2.2 h.2.2, Option.bind_some]
theorem szStringS_l (N n : Nat) (c : List (List UInt8)) (m k : Int) : g_co.l5 N n c m k = szL (fun (e : List UInt8) m => some (wi (m - (e.length : Int)))) n c m k := by
  induction n generalizing m k with
  | zero => rfl
  | succ n ih => simp only [g_co.l5, szL, ih, Option.bind_some]
theorem szStringS_eq {N : Nat} (hN : 18446744073709551616 ≤ N) (c : List (List UInt8)) (left : Int) (h0 : 0 ≤ left) (hl : left ≤ 1048576) (h : bdStringS 9223372036854775807 c) : ∃ r : Int, g_co N c left = some r ∧ (0 ≤ r → r ≤ left ∧ bdStringS 1048576 c) := by
  have hh : c.length ≤ 9223372036854775807 := h.1
  unfold g_co
  by_cases q : left - (c.length : Int) < 0
  · exact ⟨-1, by simp (disch := omega) only [dec_t, cond_true, wi_of], fun h => absurd h (by omega)⟩
  · have key := szL_eq (p := (fun (e : List UInt8) m => some (wi (m - (e.length : Int))))) (Q := fun x => (x).length ≤ 1048576) (R := fun x => (x).length ≤ 9223372036854775807) N c 0 (left - (c.length : Int)) (fun x _ hx l h0 hl => ⟨l - (x.length : Int), by rw [wi_of (by omega) (by omega)], fun _ => ⟨by omega, by omega⟩⟩) h.2 (by omega) (by omega) (by omega) (by omega) (by omega) (by omega)
    rw [Int.natCast_zero] at key
    rcases key with e | ⟨m, e, k1, k2, k3⟩
    · exact ⟨-1, by simp (disch := omega) only [dec_f, cond_false, alt_inl, Option.bind_some, wi_of, szStringS_l, e], fun h => absurd h (by omega)⟩
    · exact ⟨m, by simp (disch := omega) only [dec_f, cond_false, alt_inr, Option.bind_some, wi_of, szStringS_l, e], fun _ => ⟨by omega, by omega, by simpa using k3⟩⟩
theorem szPending_eq {N : Nat} (hN : 18446744073709551616 ≤ N) (c : Int × List UInt8) (left : Int) (h0 : 0 ≤ left) (hl : left ≤ 1048576) (h : bdPending 9223372036854775807 c) : ∃ r : Int, g_cm N c left = some r ∧ (0 ≤ r → r ≤ left ∧ bdPending 1048576 c) := by
  unfold g_cm
  have b0 : c.2.length ≤ 9223372036854775807 := h
  by_cases q0 : left - (c.2.length : Int) < 0
  · exact ⟨-1, by simp (disch := omega) only [dec_t, cond_true, wi_of], fun h => absurd h (by omega)⟩
  exact ⟨left - (c.2.length : Int), by simp (disch := omega) only [dec_f, cond_false, wi_of], fun _ => ⟨by omega, by omega⟩⟩
theorem szPendingS_l (N n : Nat) (c : List (Int × List UInt8)) (m k : Int) : g_cn.l5 N n c m k = szL (g_cm N) n c m k := by
  induction n generalizing m k with
  | zero => rfl
  | succ n ih => simp only [g_cn.l5, szL, ih]
theorem szPendingS_eq {N : Nat} (hN : 18446744073709551616 ≤ N) (c : List (Int × List UInt8)) (left : Int) (h0 : 0 ≤ left) (hl : left ≤ 1048576) (h : bdPendingS 9223372036854775807 c) : ∃ r : Int, g_cn N c left = some r ∧ (0 ≤ r → r ≤ left ∧ bdPendingS 1048576 c) := by
  have hh : c.length ≤ 9223372036854775807 := h.1
  unfold g_cn
  by_cases q : left - (c.length : Int) < 0
  · exact ⟨-1, by simp (disch := omega) only [dec_t, cond_true, wi_of], fun h => absurd h (by omega)⟩
  · have key := szL_eq (p := (g_cm N)) (Q := fun x => bdPending 1048576 x) (R := fun x => bdPending 9223372036854775807 x) N c 0 (left - (c.length : Int)) (fun x _ hx l h0 hl => szPending_eq hN x l h0 hl hx) h.2 (by omega) (by omega) (by omega) (by omega) (by omega) (by omega)
    rw [Int.natCast_zero] at key
    rcases key with e | ⟨m, e, k1, k2, k3⟩
    · exact ⟨-1, by simp (disch := omega) only [dec_f, cond_false, alt_inl, Option.bind_some, wi_of, szPendingS_l, e], fun h => absurd h (by omega)⟩
    · exact ⟨m, by simp (disch := omega) only [dec_f, cond_false, alt_inr, Option.bind_some, wi_of, szPendingS_l, e], fun _ => ⟨by omega, by omega, by simpa using k3⟩⟩
theorem szDisk_eq {N : Nat} (hN : 18446744073709551616 ≤ N) (c : List (List UInt8) × List (Int × List UInt8) × List (List UInt8)) (left : Int) (h0 : 0 ≤ left) (hl : left ≤ 1048576) (h : bdDisk 9223372036854775807 c) : ∃ r : Int, g_cl N c left = some r ∧ (0 ≤ r → r ≤ left ∧ bdDisk 1048576 c) := by
  unfold g_cl
  obtain ⟨r0, e0, k0⟩ := szStringS_eq hN c.1 (left) (by omega) (by omega) h.1
  by_cases q0 : r0 < 0
  · exact ⟨-1, by simp (disch := omega) only [dec_t, cond_true, Option.bind_some, e0], fun h => absurd h (by omega)⟩
  obtain ⟨ka0, kb0⟩ := k0 (by omega)
  obtain ⟨r1, e1, k1⟩ := szPendingS_eq hN c.2.1 (r0) (by omega) (by omega) h.2.1
  by_cases q1 : r1 < 0
  · exact ⟨-1, by simp (disch := omega) only [dec_t, dec_f, cond_true, cond_false, Option.bind_some, e0, e1], fun h => absurd h (by omega)⟩
  obtain ⟨ka1, kb1⟩ := k1 (by omega)
  obtain ⟨r2, e2, k2⟩ := szStringS_eq hN c.2.2 (r1) (by omega) (by omega) h.2.2
  by_cases q2 : r2 < 0
  · exact ⟨-1, by simp (disch := omega) only [dec_t, dec_f, cond_true, cond_false, Option.bind_some, e0, e1, e2], fun h => absurd h (by omega)⟩
  obtain ⟨ka2, kb2⟩ := k2 (by omega)
  exact ⟨r2, by simp (disch := omega) only [dec_f, cond_false, Option.bind_some, e0, e1, e2], fun _ => ⟨by omega, ⟨kb0, kb1, kb2⟩⟩⟩
theorem eqStringS_l (N n : Nat) (c d : List (List UInt8)) (k : Int) : g_cc.l4 N n c d k = eqL (fun x y => some (decide (x = y))) n c d k := by
  induction n generalizing k with
  | zero => rfl
  | succ n ih => simp only [g_cc.l4, eqL, ih, beq_dec, Option.bind_some]
theorem eqStringS_eq {N : Nat} (hN : 18446744073709551616 ≤ N) (x y : List (List UInt8)) (h : bdStringS 1000000000 x) : g_cc N x y = some (decide (x = y)) := by
  have hl : x.length ≤ 1000000000 := h.1
  unfold g_cc
  simp only [eqStringS_l]
  exact eqS_eq x y (fun _ _ _ => rfl) (by omega) (by omega)
theorem eqPending_eq {N : Nat} (hN : 18446744073709551616 ≤ N) (x y : Int × List UInt8) (h : bdPending 1000000000 x) : g_ca N x y = some (decide (x = y)) := by
  obtain ⟨x0, x1⟩ := x
  obtain ⟨y0, y1⟩ := y
  simp only [g_ca, bne_dec, beq_dec, Prod.mk.injEq]
  by_cases h0 : x0 = y0 <;> by_cases h1 : x1 = y1 <;> simp only [h0, h1, decide_true, decide_false, Bool.not_true, Bool.not_false, cond_true, cond_false, and_true, and_false, and_self]
theorem eqPendingS_l (N n : Nat) (c d : List (Int × List UInt8)) (k : Int) : g_cb.l4 N n c d k = eqL (g_ca N) n c d k := by
  induction n generalizing k with
  | zero => rfl
  | succ n ih => simp only [g_cb.l4, eqL, ih]
theorem eqPendingS_eq {N : Nat} (hN : 18446744073709551616 ≤ N) (x y : List (Int × List UInt8)) (h : bdPendingS 1000000000 x) : g_cb N x y = some (decide (x = y)) := by
  have hl : x.length ≤ 1000000000 := h.1
  unfold g_cb
  simp only [eqPendingS_l]
  exact eqS_eq x y (fun z hz y => eqPending_eq hN z y (h.2 z hz)) (by omega) (by omega)
theorem eqDisk_eq {N : Nat} (hN : 18446744073709551616 ≤ N) (x y : List (List UInt8) × List (Int × List UInt8) × List (List UInt8)) (h : bdDisk 1000000000 x) : g_bx N x y = some (decide (x = y)) := by
  obtain ⟨x0, x1, x2⟩ := x
  obtain ⟨y0, y1, y2⟩ := y
  simp only [g_bx, eqStringS_eq hN x0 y0 h.1, eqPendingS_eq hN x1 y1 h.2.1, eqStringS_eq hN x2 y2 h.2.2, Option.bind_some, Prod.mk.injEq]
  by_cases h0 : x0 = y0 <;> by_cases h1 : x1 = y1 <;> by_cases h2 : x2 = y2 <;> simp only [h0, h1, h2, decide_true, decide_false, Bool.not_true, Bool.not_false, cond_true, cond_false, and_true, and_false, and_self]
def mkStringS (N : Nat) : Nat → List (List UInt8) → List (List UInt8)
  | _, [] => []
  | m, _ :: es => mtx N (m) :: mkStringS N (m + 1) es
theorem markStringS_l {N : Nat} (hN : 18446744073709551616 ≤ N) : ∀ (n m k : Nat) (done rest : List (List UInt8)), done.length = k → rest.length < n → k + rest.length ≤ 140737488355328 → m + 1 * rest.length ≤ 9000000000000000000 →
    g_cj.l2 N n (m : Int) (k : Int) (done ++ rest) = some (((m + 1 * rest.length : Nat) : Int), done ++ mkStringS N m rest)
  | 0, _, _, _, _, _, h, _, _ => by omega
  | n + 1, m, k, done, [], hk, hn, hl, hm => by
    unfold g_cj.l2
    subst hk
    simp (disch := omega) only [dec_t, dec_f, cond_false, gd_true, Int.toNat_natCast, bind_id, nc1, wi_of, List.length_nil, List.append_nil, mkStringS, Nat.mul_zero, Nat.add_zero]
  | n + 1, m, k, done, e :: es, hk, hn, hl, hm => by
    unfold g_cj.l2
    simp only [List.length_cons] at hn hl hm
    subst hk
    obtain ⟨t0, ht0⟩ := markText_some hN (m) (by omega)
    simp (disch := omega) only [dec_t, cond_true, gd_true, Int.toNat_natCast, Option.bind_some, bind_id, nc1, wi_of, List.length_append, List.length_cons, mid_get, mid_set, mtx, ht0, mkStringS]
    rw [List.append_cons, markStringS_l hN n (m + 1) (done.length + 1) _ es (by simp) (by omega) (by omega) (by omega)]
    simp only [List.append_assoc, List.singleton_append, Option.getD_some, Option.some.injEq, Prod.mk.injEq, and_true]
    omega
def mkPendingS (N : Nat) : Nat → List (Int × List UInt8) → List (Int × List UInt8)
  | _, [] => []
  | m, _ :: es => (((m : Nat) : Int), mtx N (m + 1)) :: mkPendingS N (m + 1 + 1) es
theorem markPendingS_l {N : Nat} (hN : 18446744073709551616 ≤ N) : ∀ (n m k : Nat) (done rest : List (Int × List UInt8)), done.length = k → rest.length < n → k + rest.length ≤ 140737488355328 → m + 2 * rest.length ≤ 9000000000000000000 →
    g_ci.l2 N n (m : Int) (k : Int) (done ++ rest) = some (((m + 2 * rest.length : Nat) : Int), done ++ mkPendingS N m rest)
  | 0, _, _, _, _, _, h, _, _ => by omega
  | n + 1, m, k, done, [], hk, hn, hl, hm => by
    unfold g_ci.l2
    subst hk
    simp (disch := omega) only [dec_t, dec_f, cond_false, gd_true, Int.toNat_natCast, bind_id, nc1, wi_of, List.length_set, List.length_nil, List.append_nil, mkPendingS, Nat.mul_zero, Nat.add_zero]
  | n + 1, m, k, done, e :: es, hk, hn, hl, hm => by
    unfold g_ci.l2
    simp only [List.length_cons] at hn hl hm
    subst hk
    obtain ⟨t1, ht1⟩ := markText_some hN (m + 1) (by omega)
    simp (disch := omega) only [dec_t, cond_true, gd_true, Int.toNat_natCast, Option.bind_some, bind_id, nc1, wi_of, List.length_append, List.length_cons, mid_get, mid_set, mtx, ht1, mkPendingS]
    rw [List.append_cons, markPendingS_l hN n (m + 1 + 1) (done.length + 1) _ es (by simp) (by omega) (by omega) (by omega)]
    simp only [List.append_assoc, List.singleton_append, Option.getD_some, Option.some.injEq, Prod.mk.injEq, and_true]
    omega
theorem StringS_marked {N : Nat} (hN : 18446744073709551616 ≤ N) (c : List (List UInt8)) (m : Nat) (hm : m + 1000000000 ≤ 1000000000000000000) (h : bdStringS 1000000000 c) : ∃ o : List (List UInt8), ∃ k : Nat, g_cj N c (m : Int) = some (o, ((k : Nat) : Int)) ∧ m ≤ k ∧ k ≤ m + 1000000000 := by
  have hl : c.length ≤ 1000000000 := h.1
  have e1 := markStringS_l hN N m 0 [] c rfl (by omega) (by omega) (by omega)
  simp only [List.nil_append, Int.natCast_zero] at e1
  refine ⟨mkStringS N m c, m + 1 * c.length, ?_, by omega, by omega⟩
  unfold g_cj
  rw [e1]; rfl
theorem PendingS_marked {N : Nat} (hN : 18446744073709551616 ≤ N) (c : List (Int × List UInt8)) (m : Nat) (hm : m + 2000000000 ≤ 1000000000000000000) (h : bdPendingS 1000000000 c) : ∃ o : List (Int × List UInt8), ∃ k : Nat, g_ci N c (m : Int) = some (o, ((k : Nat) : Int)) ∧ m ≤ k ∧ k ≤ m + 2000000000 := by
  have hl : c.length ≤ 1000000000 := h.1
  have e1 := markPendingS_l hN N m 0 [] c rfl (by omega) (by omega) (by omega)
  simp only [List.nil_append, Int.natCast_zero] at e1
  refine ⟨mkPendingS N m c, m + 2 * c.length, ?_, by omega, by omega⟩
  unfold g_ci
  rw [e1]; rfl
theorem Disk_marked {N : Nat} (hN : 18446744073709551616 ≤ N) (c : List (List UInt8) × List (Int × List UInt8) × List (List UInt8)) (m : Nat) (hm : m + 4000000000 ≤ 1000000000000000000) (h : bdDisk 1000000000 c) : ∃ (o0_0 : List (List UInt8)) (o1_0 : List (Int × List UInt8)) (o2_0 : List (List UInt8)), ∃ k : Nat, g_ch N c (m : Int) = some (o0_0, o1_0, o2_0, ((k : Nat) : Int)) ∧ m ≤ k ∧ k ≤ m + 4000000000 := by
  obtain ⟨o0_0, k0, e0, l0, u0⟩ := StringS_marked hN c.1 m (by omega) h.1
  obtain ⟨o1_0, k1, e1, l1, u1⟩ := PendingS_marked hN c.2.1 k0 (by omega) h.2.1
  obtain ⟨o2_0, k2, e2, l2, u2⟩ := StringS_marked hN c.2.2 k1 (by omega) h.2.2
  refine ⟨o0_0, o1_0, o2_0, k2, ?_, by omega, by omega⟩
  unfold g_ch
  simp (disch := omega) only [Option.bind_some, e0, e1, e2]
abbrev bdBoolS (n : Nat) (x : List Bool) : Prop := x.length ≤ n
theorem bdBoolS_mono {n m : Nat} (hm : n ≤ m) {x : List Bool} (h : bdBoolS n x) : bdBoolS m x := Nat.le_trans h hm
abbrev bdDiskAct (n : Nat) (x : Int × Int × List UInt8 × List Bool × Int) : Prop := (x.2.2.1).length ≤ n ∧ bdBoolS n x.2.2.2.1
theorem bdDiskAct_mono {n m : Nat} (hm : n ≤ m) {x : Int × Int × List UInt8 × List Bool × Int} (h : bdDiskAct n x) : bdDiskAct m x := ⟨Nat.le_trans h.1 hm, bdBoolS_mono hm h.2⟩
theorem eqBoolS_l (N n : Nat) (c d : List Bool) (k : Int) : g_bw.l4 N n c d k = eqL (fun x y => some (decide (x = y))) n c d k := by
  induction n generalizing k with
  | zero => rfl
  | succ n ih => simp only [g_bw.l4, eqL, ih, beq_dec, Option.bind_some]
theorem eqBoolS_eq {N : Nat} (hN : 18446744073709551616 ≤ N) (x y : List Bool) (h : bdBoolS 1000000000 x) : g_bw N x y = some (decide (x = y)) := by
  have hl : x.length ≤ 1000000000 := h
  unfold g_bw
  simp only [eqBoolS_l]
  exact eqS_eq x y (fun _ _ _ => rfl) (by omega) (by omega)
theorem eqDiskAct_eq {N : Nat} (hN : 18446744073709551616 ≤ N) (x y : Int × Int × List UInt8 × List Bool × Int) (h : bdDiskAct 1000000000 x) : g_by N x y = some (decide (x = y)) := by
  obtain ⟨x0, x1, x2, x3, x4⟩ := x
  obtain ⟨y0, y1, y2, y3, y4⟩ := y
  simp only [g_by, eqBoolS_eq hN x3 y3 h.2, bne_dec, beq_dec, Option.bind_some, Prod.mk.injEq]
  by_cases h0 : x0 = y0 <;> by_cases h1 : x1 = y1 <;> by_cases h2 : x2 = y2 <;> by_cases h3 : x3 = y3 <;> by_cases h4 : x4 = y4 <;> simp only [h0, h1, h2, h3, h4, decide_true, decide_false, Bool.not_true, Bool.not_false, cond_true, cond_false, and_true, and_false, and_self]
def mkBoolS (N : Nat) : Nat → List Bool → List Bool
  | _, [] => []
  | m, _ :: es => (((m : Nat) : Int).tmod 3 == 0) :: mkBoolS N (m + 1) es
theorem markBoolS_l {N : Nat} (hN : 18446744073709551616 ≤ N) : ∀ (n m k : Nat) (done rest : List Bool), done.length = k → rest.length < n → k + rest.length ≤ 140737488355328 → m + 1 * rest.length ≤ 9000000000000000000 →
    g_cf.l2 N n (m : Int) (k : Int) (done ++ rest) = some (((m + 1 * rest.length : Nat) : Int), done ++ mkBoolS N m rest)
  | 0, _, _, _, _, _, h, _, _ => by omega
  | n + 1, m, k, done, [], hk, hn, hl, hm => by
    unfold g_cf.l2
    subst hk
    simp (disch := omega) only [dec_t, dec_f, cond_false, gd_true, Int.toNat_natCast, bind_id, nc1, wi_of, List.length_nil, List.append_nil, mkBoolS, Nat.mul_zero, Nat.add_zero]
  | n + 1, m, k, done, e :: es, hk, hn, hl, hm => by
    unfold g_cf.l2
    simp only [List.length_cons] at hn hl hm
    subst hk
    simp (disch := omega) only [dec_t, cond_true, gd_true, Int.toNat_natCast, Option.bind_some, bind_id, nc1, wi_of, List.length_append, List.length_cons, mid_get, mid_set, mkBoolS]
    rw [List.append_cons, markBoolS_l hN n (m + 1) (done.length + 1) _ es (by simp) (by omega) (by omega) (by omega)]
    simp only [List.append_assoc, List.singleton_append, Option.some.injEq, Prod.mk.injEq, and_true]
    omega
end Go.Vm
/- Disks: whether one is right, as the reference tells it; one act; the law of it. -/
set_option linter.unusedVariables false
set_option maxRecDepth 100000
namespace Go.Vm
theorem sOK_l4 (N : Nat) (b s : List (List UInt8)) (c : List (Int × List UInt8)) (hb : b.length ≤ 1000000000) : ∀ (n k : Nat), b.length ≤ k + n - 1 → 0 < n → k ≤ b.length →
    g_db.l4 N n (k : Int) b c s = some (bif (b.drop k).all (fun x => decide (x.length ≤ 200)) then .inr (b, c, s) else .inl false)
  | 0, _, _, h, _ => by omega
  | n + 1, k, hn, _, hk => by
    unfold g_db.l4
    by_cases h : k < b.length
    · rw [drop_get h, List.all_cons]
      by_cases h2 : b[k].length ≤ 200
      · simp (disch := omega) only [dec_t, dec_f, cond_true, cond_false, gd_true, Bool.true_and, Int.toNat_natCast, get_t, Option.bind_some, bind_id, nc1, wi_of, sOK_l4 N b s c hb n (k + 1)]
      · simp (disch := omega) only [dec_t, dec_f, cond_true, cond_false, gd_true, Int.toNat_natCast, get_t, Option.bind_some, bind_id, nc1, wi_of, Bool.false_and]
    · simp (disch := omega) only [dec_t, dec_f, cond_true, cond_false, gd_true, Int.toNat_natCast, bind_id, nc1, wi_of, List.drop_of_length_le, List.all_nil]
theorem sOK_l9 (N : Nat) (b s : List (List UInt8)) (c : List (Int × List UInt8)) (hb : s.length ≤ 1000000000) : ∀ (n k : Nat), s.length ≤ k + n - 1 → 0 < n → k ≤ s.length →
    g_db.l9 N n (k : Int) b c s = some (bif (s.drop k).all (fun x => decide (x.length ≤ 200)) then .inr (b, c, s) else .inl false)
  | 0, _, _, h, _ => by omega
  | n + 1, k, hn, _, hk => by
    unfold g_db.l9
    by_cases h : k < s.length
    · rw [drop_get h, List.all_cons]
      by_cases h2 : s[k].length ≤ 200
      · simp (disch := omega) only [dec_t, dec_f, cond_true, cond_false, gd_true, Bool.true_and, Int.toNat_natCast, get_t, Option.bind_some, bind_id, nc1, wi_of, sOK_l9 N b s c hb n (k + 1)]
      · simp (disch := omega) only [dec_t, dec_f, cond_true, cond_false, gd_true, Int.toNat_natCast, get_t, Option.bind_some, bind_id, nc1, wi_of, Bool.false_and]
    · simp (disch := omega) only [dec_t, dec_f, cond_true, cond_false, gd_true, Int.toNat_natCast, bind_id, nc1, wi_of, List.drop_of_length_le, List.all_nil]
theorem sOK_l14 (N : Nat) (b s : List (List UInt8)) (c : List (Int × List UInt8)) (hb : c.length ≤ 1000000000) (hb2 : b.length ≤ 1000000000) : ∀ (n k : Nat), c.length ≤ k + n - 1 → 0 < n → k ≤ c.length →
    g_db.l14 N n (k : Int) b c s = some (bif (c.drop k).all (goodP b.length) then .inr () else .inl false)
  | 0, _, _, h, _ => by omega
  | n + 1, k, hn, _, hk => by
    unfold g_db.l14
    by_cases h : k < c.length
    · rw [drop_get h, List.all_cons, goodP]
      by_cases q1 : 0 ≤ c[k].1
      · by_cases q2 : c[k].1 ≤ (b.length : Int) - 1
        · by_cases h2 : c[k].2.length ≤ 200
          · simp (disch := omega) only [dIn, dec_t, dec_f, cond_true, cond_false, gd_true, Bool.not_true, Bool.true_and, Bool.and_self, Int.toNat_natCast, get_t, Option.bind_some, bind_id, nc1, wi_of, sOK_l14 N b s c hb hb2 n (k + 1)]
          · simp (disch := omega) only [dIn, dec_t, dec_f, cond_true, cond_false, gd_true, Bool.not_true, Bool.and_self, Int.toNat_natCast, get_t, Option.bind_some, bind_id, nc1, wi_of, Bool.and_false, Bool.false_and]
        · simp (disch := omega) only [dIn, dec_t, dec_f, cond_true, cond_false, gd_true, Bool.not_false, Int.toNat_natCast, get_t, Option.bind_some, bind_id, nc1, wi_of, Bool.and_false, Bool.false_and]
      · simp (disch := omega) only [dIn, dec_t, dec_f, cond_true, cond_false, gd_true, Bool.not_false, Bool.and_true, Int.toNat_natCast, get_t, Option.bind_some, bind_id, nc1, wi_of, Bool.false_and]
    · simp (disch := omega) only [dec_t, dec_f, cond_true, cond_false, gd_true, Int.toNat_natCast, bind_id, nc1, wi_of, List.drop_of_length_le, List.all_nil]
theorem sDiskOK_any {N : Nat} (hN : 18446744073709551616 ≤ N) (d : DiskT) (h1 : d.1.length ≤ 1000000000) (h2 : d.2.1.length ≤ 1000000000) (h3 : d.2.2.length ≤ 1000000000) : g_db N d = some (okDB d) := by
  obtain ⟨b, c, s⟩ := d
  dsimp only at h1 h2 h3
  have e1 := sOK_l4 N b s c h1 N 0 (by omega) (by omega) (by omega)
  have e2 := sOK_l9 N b s c h3 N 0 (by omega) (by omega) (by omega)
  have e3 := sOK_l14 N b s c h2 h1 N 0 (by omega) (by omega) (by omega)
  simp only [Int.natCast_zero, List.drop_zero] at e1 e2 e3
  unfold g_db okDB
  simp only [dIn, e1, Option.bind_some]
  by_cases q1 : 1 ≤ b.length
  · by_cases q2 : b.length ≤ 64
    · by_cases q4 : c.length ≤ 4096
      · by_cases q6 : s.length = 0
        · simp (disch := omega) only [dec_t, dec_f, cond_true, cond_false, Bool.not_true, Bool.and_true, Bool.true_and, Bool.and_self, bne_ti, bne_fi, Bool.true_or]
          cases b.all (fun x => decide (x.length ≤ 200))
          · simp only [cond_false, Bool.false_and, alt_inl]
          · simp only [cond_true, Bool.true_and, alt_inr, e2, Option.bind_some]
            cases s.all (fun x => decide (x.length ≤ 200)) <;> simp only [cond_true, cond_false, alt_inl, alt_inr, e3, Option.bind_some, Bool.and_false, Bool.and_true] <;> cases c.all (goodP b.length) <;> rfl
        · by_cases q7 : s.length = b.length
          · simp (disch := omega) only [dec_t, dec_f, cond_true, cond_false, Bool.not_true, Bool.and_true, Bool.true_and, Bool.and_self, bne_ti, bne_fi, Bool.false_or]
            cases b.all (fun x => decide (x.length ≤ 200))
            · simp only [cond_false, Bool.false_and, alt_inl]
            · simp only [cond_true, Bool.true_and, alt_inr, e2, Option.bind_some]
              cases s.all (fun x => decide (x.length ≤ 200)) <;> simp only [cond_true, cond_false, alt_inl, alt_inr, e3, Option.bind_some, Bool.and_false, Bool.and_true] <;> cases c.all (goodP b.length) <;> rfl
          · simp (disch := omega) only [dec_t, dec_f, cond_true, cond_false, Bool.not_true, Bool.and_true, Bool.true_and, Bool.and_self, bne_ti, Bool.or_self, Bool.and_false, Bool.false_and]
      · simp (disch := omega) only [dec_t, dec_f, cond_true, cond_false, Bool.not_true, Bool.true_and, Bool.and_self, Bool.and_false, Bool.false_and]
    · simp (disch := omega) only [dec_t, dec_f, cond_true, Bool.not_false, Bool.and_false, Bool.false_and]
  · simp (disch := omega) only [dec_t, dec_f, cond_true, Bool.not_false, Bool.and_true, Bool.false_and]
end Go.Vm
/- Slots: the one that is open; the law FnExactOpenSlots. -/
set_option linter.unusedVariables false
set_option maxRecDepth 100000
namespace Go.Vm
theorem sread_l2 (N : Nat) (b : List (List UInt8)) (c : List (Int × List UInt8)) (s : List (List UInt8)) (at_ : Int) (hc : c.length ≤ 1000000) : ∀ (n k : Nat), k < n → k ≤ c.length → g_ee.l2 N n at_ ((k : Int) - 1) b c s = some (match rdF c at_ k with | some v => .inl v | none => .inr (b, c, s))
  | 0, k, h, _ => by omega
  | n + 1, 0, h, hk => by
    unfold g_ee.l2
    simp (disch := omega) only [dec_f, cond_false, bind_id, wi_of, rdF]
  | n + 1, k + 1, h, hk => by
    unfold g_ee.l2
    have hkc : k < c.length := by omega
    have e : (((k + 1 : Nat) : Int) - 1) = (k : Int) := by omega
    have ih := sread_l2 N b c s at_ hc n k (by omega) (by omega)
    rw [e, rdF, get_t hkc]
    by_cases q : c[k].1 = at_
    · simp (disch := omega) only [dec_t, cond_true, gd_true, Int.toNat_natCast, get_t, Option.bind_some, bind_id, wi_of, beq_ti, if_pos q]
    · simp (disch := omega) only [dec_t, cond_true, cond_false, gd_true, Int.toNat_natCast, get_t, Option.bind_some, bind_id, wi_of, beq_fi, if_neg q, ih]
theorem sread_eq {N : Nat} (hN : 18446744073709551616 ≤ N) (b : List (List UInt8)) (c : List (Int × List UInt8)) (s : List (List UInt8)) (at_ : Int) (hc : c.length ≤ 1000000) (h1 : 0 ≤ at_) (h2 : at_ < (b.length : Int)) : g_ee N (b, c, s) at_ = some (rdD (b, c, s) at_) := by
  have e := sread_l2 N b c s at_ hc N c.length (by omega) (Nat.le_refl _)
  have hlt : at_.toNat < b.length := by omega
  have ew : wi ((c.length : Int) - 1) = (c.length : Int) - 1 := wi_of (by omega) (by omega)
  unfold g_ee rdD
  dsimp only
  rw [ew, e]
  cases rdF c at_ c.length with
  | some v => simp only [Option.bind_some, alt_inl]
  | none => simp (disch := omega) only [dec_t, gd_true, alt_inr, get_t, Option.bind_some, bind_id]; rfl
theorem rdF_mem (c : List (Int × List UInt8)) (at_ : Int) : ∀ (k : Nat) (v : List UInt8), rdF c at_ k = some v → ∃ p ∈ c, p.2 = v
  | 0, v, h => by simp [rdF] at h
  | k + 1, v, h => by
    unfold rdF at h
    split at h
    · rename_i p hp
      split at h
      · simp only [Option.some.injEq] at h
        exact ⟨p, List.mem_of_getElem? hp, h⟩
      · exact rdF_mem c at_ k v h
    · exact rdF_mem c at_ k v h
theorem rdD_len {d : DiskT} (h : OkD d) (at_ : Int) : (rdD d at_).length ≤ 200 := by
  unfold rdD
  split
  · rename_i v hv
    obtain ⟨p, hp, rfl⟩ := rdF_mem _ _ _ _ hv
    exact (h.c2 p hp).2.2
  · cases hb : d.1[at_.toNat]? with
    | none => simp
    | some x => exact h.b3 x (List.mem_of_getElem? hb)
def best (s : Option (Int × List UInt8)) (cur : Int × List UInt8) : Int × List UInt8 := match s with | some x => if cur.1 < x.1 then x else cur | none => cur
/-- The slot of the greater epoch of those that open. -/
def openF (key : List UInt8) (d : DiskT) : Int × List UInt8 := best (rdSlot key 1 (rdD d 1)) (best (rdSlot key 0 (rdD d 0)) (0, []))
theorem iOpen_step {key : List UInt8} {d : DiskT} (hd : OkD d) (hl : 2 ≤ d.1.length) (hk : key.length ≤ 1000000) (n p : Nat) (hp : p < 2) (m5 : Int) (m6 : List UInt8) (cur : Int × List UInt8) :
    g_af.l3 N0 (n + 1) key (p : Int) d.1 d.2.1 d.2.2 m5 m6 cur.1 cur.2 = g_af.l3 N0 n key ((p + 1 : Nat) : Int) d.1 d.2.1 d.2.2 m5 m6 (best (rdSlot key p (rdD d p)) cur).1 (best (rdSlot key p (rdD d p)) cur).2 := by
  obtain ⟨b, c, s⟩ := d
  dsimp only at hl ⊢
  have hr := read_eq N0 b c s (p : Int) (by omega) (by omega)
  have hrl := rdD_len hd (p : Int)
  obtain ⟨x, ok, e, h⟩ := iReadSlot1 (key := key) (place := (p : Int)) (b := rdD (b, c, s) (p : Int)) hk (by omega)
  conv => lhs; unfold g_af.l3
  rcases h with ⟨rfl, h⟩ | ⟨rfl, h⟩
  · rw [h]
    by_cases hc : cur.1 < x.1
    · simp (disch := omega) only [dec_t, cond_true, Option.bind_some, bind_id, nc1, wi_of, hr, e, best, if_pos hc]
    · simp (disch := omega) only [dec_t, dec_f, cond_true, cond_false, Option.bind_some, bind_id, nc1, wi_of, hr, e, best, if_neg hc]
  · rw [h]
    simp (disch := omega) only [dec_t, cond_true, cond_false, Option.bind_some, bind_id, nc1, wi_of, hr, e, best]
theorem sOpen_step {key : List UInt8} {d : DiskT} (hd : OkD d) (hl : 2 ≤ d.1.length) (hk : key.length ≤ 1000000) (n p : Nat) (hp : p < 2) (m5 : Int) (m6 : List UInt8) (cur : Int × List UInt8) :
    g_ei.l3 N0 (n + 1) key (p : Int) d.1 d.2.1 d.2.2 m5 m6 cur.1 cur.2 = g_ei.l3 N0 n key ((p + 1 : Nat) : Int) d.1 d.2.1 d.2.2 m5 m6 (best (rdSlot key p (rdD d p)) cur).1 (best (rdSlot key p (rdD d p)) cur).2 := by
  have hcl := hd.c1
  have hrl := rdD_len hd (p : Int)
  obtain ⟨b, c, s⟩ := d
  dsimp only at hl hcl ⊢
  have hr := sread_eq hN0 b c s (p : Int) (by omega) (by omega) (by omega)
  have e := sReadSlot1 (key := key) (place := (p : Int)) (b := rdD (b, c, s) (p : Int)) hk (by omega)
  conv => lhs; unfold g_ei.l3
  cases h : rdSlot key (p : Int) (rdD (b, c, s) (p : Int)) with
  | some x =>
    rw [h] at e
    by_cases hc : cur.1 < x.1
    · simp (disch := omega) only [dec_t, cond_true, Option.bind_some, bind_id, nc1, wi_of, hr, e, best, if_pos hc]
    · simp (disch := omega) only [dec_t, dec_f, cond_true, cond_false, Option.bind_some, bind_id, nc1, wi_of, hr, e, best, if_neg hc]
  | none =>
    rw [h] at e
    simp (disch := omega) only [dec_t, cond_true, cond_false, Option.bind_some, bind_id, nc1, wi_of, hr, e, best]
theorem iOpenF {key : List UInt8} {d : DiskT} (hd : OkD d) (hl : 2 ≤ d.1.length) (hk : key.length ≤ 1000000) : g_af N0 d key = some (openF key d) := by
  unfold g_af
  have h0 := iOpen_step hd hl hk 18446744073709551615 0 (by omega) 0 [] (0, [])
  have h1 := iOpen_step hd hl hk 18446744073709551614 1 (by omega) 0 [] (best (rdSlot key 0 (rdD d 0)) (0, []))
  have h2 : ∀ (x : Int) (y : List UInt8), g_af.l3 N0 18446744073709551614 key ((2 : Nat) : Int) d.1 d.2.1 d.2.2 0 [] x y = some (0, [], x, y) := fun x y => by
    rw [show (18446744073709551614 : Nat) = 18446744073709551613 + 1 from rfl]
    unfold g_af.l3
    simp (disch := omega) only [dec_f, cond_false, bind_id, nc1, wi_of]
  rw [show (18446744073709551615 + 1 : Nat) = N0 from rfl, Int.natCast_zero] at h0
  rw [show (18446744073709551614 + 1 : Nat) = 18446744073709551615 from rfl, show ((1 : Nat) : Int) = 1 from rfl] at h1
  rw [h0, show ((0 + 1 : Nat) : Int) = 1 from rfl, h1, h2]; rfl
theorem sOpenF {key : List UInt8} {d : DiskT} (hd : OkD d) (hl : 2 ≤ d.1.length) (hk : key.length ≤ 1000000) : g_ei N0 key d = some (openF key d) := by
  unfold g_ei
  have h0 := sOpen_step hd hl hk 18446744073709551615 0 (by omega) 0 [] (0, [])
  have h1 := sOpen_step hd hl hk 18446744073709551614 1 (by omega) 0 [] (best (rdSlot key 0 (rdD d 0)) (0, []))
  have h2 : ∀ (x : Int) (y : List UInt8), g_ei.l3 N0 18446744073709551614 key ((2 : Nat) : Int) d.1 d.2.1 d.2.2 0 [] x y = some (0, [], x, y) := fun x y => by
    rw [show (18446744073709551614 : Nat) = 18446744073709551613 + 1 from rfl]
    unfold g_ei.l3
    simp (disch := omega) only [dec_f, cond_false, bind_id, nc1, wi_of]
  rw [show (18446744073709551615 + 1 : Nat) = N0 from rfl, Int.natCast_zero] at h0
  rw [show (18446744073709551614 + 1 : Nat) = 18446744073709551615 from rfl, show ((1 : Nat) : Int) = 1 from rfl] at h1
  rw [h0, show ((0 + 1 : Nat) : Int) = 1 from rfl, h1, h2]; rfl
/-- The code for a key and a disk with slots. -/
def slCode (key : List UInt8) (d : DiskT) : Int := if key.length = 32 then (if okDB d = true then (if d.1.length < 2 then 4 else 0) else 1) else 1
theorem iSlCode {key : List UInt8} {d : DiskT} (h1 : d.1.length ≤ 1048576) (h2 : d.2.1.length ≤ 1048576) (h3 : d.2.2.length ≤ 1048576) : g_bn N0 key d = some (if 65536 < key.length then 2 else slCode key d) := by
  unfold g_bn slCode
  rw [isLongS_eq hN0 key, iDiskOK_any hN0 d (by omega) (by omega) (by omega)]
  by_cases q1 : 65536 < key.length
  · simp (disch := omega) only [dec_t, cond_true, Option.bind_some, bne_ti, if_pos q1]
  by_cases q2 : key.length = 32
  · cases hd : okDB d
    · simp (disch := omega) only [dec_f, cond_true, cond_false, Bool.not_false, Option.bind_some, bne_fi, if_neg q1, if_pos q2, Bool.false_eq_true, if_false]
    · by_cases q3 : d.1.length < 2
      · simp (disch := omega) only [dec_t, dec_f, cond_true, cond_false, Bool.not_true, Option.bind_some, bne_fi, if_neg q1, if_pos q2, if_true, if_pos q3]
      · simp (disch := omega) only [dec_f, cond_false, Bool.not_true, Option.bind_some, bne_fi, if_neg q1, if_pos q2, if_true, if_neg q3]
  · simp (disch := omega) only [dec_f, cond_true, cond_false, Option.bind_some, bne_ti, if_neg q1, if_neg q2]
theorem sSlCode {key : List UInt8} {d : DiskT} (h1 : d.1.length ≤ 1048576) (h2 : d.2.1.length ≤ 1048576) (h3 : d.2.2.length ≤ 1048576) (hk : key.length ≤ 1048576) : g_eg N0 key d = some (slCode key d) := by
  unfold g_eg slCode
  rw [sDiskOK_any hN0 d (by omega) (by omega) (by omega)]
  by_cases q2 : key.length = 32
  · cases hd : okDB d
    · simp (disch := omega) only [cond_true, cond_false, Bool.not_false, Option.bind_some, bne_fi, if_pos q2, Bool.false_eq_true, if_false]
    · by_cases q3 : d.1.length < 2
      · simp (disch := omega) only [dec_t, cond_true, cond_false, Bool.not_true, Option.bind_some, bne_fi, if_pos q2, if_true, if_pos q3]
      · simp (disch := omega) only [dec_f, cond_false, Bool.not_true, Option.bind_some, bne_fi, if_pos q2, if_true, if_neg q3]
  · simp (disch := omega) only [cond_true, Option.bind_some, bne_ti, if_neg q2]
theorem slCode_ok {key : List UInt8} {d : DiskT} (h : slCode key d = 0) : key.length = 32 ∧ OkD d ∧ 2 ≤ d.1.length := by
  unfold slCode at h
  by_cases q2 : key.length = 32
  · rw [if_pos q2] at h
    by_cases q : okDB d = true
    · rw [if_pos q] at h
      by_cases q3 : d.1.length < 2
      · rw [if_pos q3] at h; omega
      · exact ⟨q2, okDB_spec q, by omega⟩
    · rw [if_neg q] at h; omega
  · rw [if_neg q2] at h; omega
end Go.Vm
/- The laws' own helpers, printed by a program of ours. -/
set_option linter.unusedVariables false
set_option maxRecDepth 100000
namespace Go.Vm
theorem heldBoolS_l {N : Nat} (hN : 18446744073709551616 ≤ N) : ∀ (n m k : Nat) (done rest : List Bool), done.length = k → rest.length < n → k + rest.length ≤ 140737488355328 → m + 1 * rest.length ≤ 9000000000000000000 →
    g_cd.l2 N n (done ++ mkBoolS N m rest) (m : Int) (k : Int) = some (.inr ((m + 1 * rest.length : Nat) : Int))
  | 0, _, _, _, _, _, h, _, _ => by omega
  | n + 1, m, k, done, [], hk, hn, hl, hm => by
    unfold g_cd.l2
    subst hk
    simp (disch := omega) only [dec_t, dec_f, cond_false, gd_true, Int.toNat_natCast, bind_id, nc1, wi_of, List.length_nil, List.append_nil, mkBoolS, Nat.mul_zero, Nat.add_zero]
  | n + 1, m, k, done, e :: es, hk, hn, hl, hm => by
    unfold g_cd.l2
    simp only [List.length_cons] at hn hl hm
    subst hk
    simp (disch := omega) only [dec_t, cond_true, cond_false, gd_true, Bool.not_true, Int.toNat_natCast, Option.bind_some, bind_id, nc1, wi_of, List.length_append, List.length_cons, mid_get, mkBoolS, beq_self_eq_true]
    rw [List.append_cons, heldBoolS_l hN n (m + 1) (done.length + 1) _ es (by simp) (by omega) (by omega) (by omega)]
    congr 3
    omega
theorem BoolS_held {N : Nat} (hN : 18446744073709551616 ≤ N) (c : List Bool) (m : Nat) (hm : m + 1000000000 ≤ 1000000000000000000) (h : bdBoolS 1000000000 c) : ∃ o : List Bool, ∃ k : Nat, g_cf N c (m : Int) = some (o, ((k : Nat) : Int)) ∧ m ≤ k ∧ k ≤ m + 1000000000 ∧ g_cd N o (m : Int) = some (k : Int) := by
  have hl : c.length ≤ 1000000000 := h
  have e1 := markBoolS_l hN N m 0 [] c rfl (by omega) (by omega) (by omega)
  have e2 := heldBoolS_l hN N m 0 [] c rfl (by omega) (by omega) (by omega)
  simp only [List.nil_append, Int.natCast_zero] at e1 e2
  refine ⟨mkBoolS N m c, m + 1 * c.length, ?_, by omega, by omega, ?_⟩
  · unfold g_cf
    rw [e1]; rfl
  · unfold g_cd
    rw [e2]; rfl
abbrev bdDiskActS (n : Nat) (x : List (Int × Int × List UInt8 × List Bool × Int)) : Prop := x.length ≤ n ∧ ∀ y ∈ x, bdDiskAct n y
theorem bdDiskActS_mono {n m : Nat} (hm : n ≤ m) {x : List (Int × Int × List UInt8 × List Bool × Int)} (h : bdDiskActS n x) : bdDiskActS m x := ⟨Nat.le_trans h.1 hm, fun y hy => bdDiskAct_mono hm (h.2 y hy)⟩
theorem eqDiskActS_l (N n : Nat) (c d : List (Int × Int × List UInt8 × List Bool × Int)) (k : Int) : g_bz.l4 N n c d k = eqL (g_by N) n c d k := by
  induction n generalizing k with
  | zero => rfl
  | succ n ih => simp only [g_bz.l4, eqL, ih]
theorem eqDiskActS_eq {N : Nat} (hN : 18446744073709551616 ≤ N) (x y : List (Int × Int × List UInt8 × List Bool × Int)) (h : bdDiskActS 1000000000 x) : g_bz N x y = some (decide (x = y)) := by
  have hl : x.length ≤ 1000000000 := h.1
  unfold g_bz
  simp only [eqDiskActS_l]
  exact eqS_eq x y (fun z hz y => eqDiskAct_eq hN z y (h.2 z hz)) (by omega) (by omega)
end Go.Vm
/- Slots: the acts that write one; the law FnExactSlotPlan. -/
set_option linter.unusedVariables false
set_option maxRecDepth 100000
namespace Go.Vm
theorem mhAct_l {N : Nat} (hN : 18446744073709551616 ≤ N) : ∀ (n m k : Nat) (done rest : List ActT), done.length = k → rest.length < n → k + rest.length ≤ 140737488355328 → (∀ a ∈ rest, a.2.2.2.1.length ≤ 1048576) → m + 1000000010 * rest.length ≤ 900000000000000000 →
    ∃ o : List ActT, ∃ k' : Nat, g_cg.l2 N n (m : Int) (k : Int) (done ++ rest) = some ((k' : Int), done ++ o) ∧ m ≤ k' ∧ k' ≤ m + 1000000010 * rest.length ∧ o.length = rest.length ∧ ∀ (n2 : Nat) (d2 : List ActT), d2.length = k → rest.length < n2 → g_ce.l2 N n2 (d2 ++ o) (m : Int) (k : Int) = some (.inr (k' : Int))
  | 0, _, _, _, _, _, h, _, _, _ => by omega
  | n + 1, m, k, done, [], hk, hn, hl, hb, hm => by
    unfold g_cg.l2
    subst hk
    refine ⟨[], m, by simp (disch := omega) only [dec_t, dec_f, cond_false, gd_true, Int.toNat_natCast, bind_id, nc1, wi_of, List.length_set, List.append_nil], by omega, by omega, rfl, fun n2 d2 hd h2 => ?_⟩
    obtain ⟨n3, rfl⟩ : ∃ n3, n2 = n3 + 1 := ⟨n2 - 1, by simp at h2; omega⟩
    unfold g_ce.l2
    simp (disch := omega) only [dec_t, dec_f, cond_false, gd_true, Int.toNat_natCast, bind_id, nc1, wi_of, List.append_nil]
  | n + 1, m, k, done, e :: es, hk, hn, hl, hb, hm => by
    unfold g_cg.l2
    simp only [List.length_cons] at hn hl hm ⊢
    subst hk
    obtain ⟨t4, ht4⟩ := markText_some hN (m + 1 + 1) (by omega)
    have he := hb e (by simp)
    obtain ⟨m3, hm3⟩ : ∃ m3, m3 = m + 1 + 1 + 1 := ⟨_, rfl⟩
    have hk2 : bdBoolS 1000000000 e.2.2.2.1 := by show e.2.2.2.1.length ≤ 1000000000; omega
    have h5 : 1000000010 * (es.length + 1) = 1000000010 * es.length + 1000000010 := Nat.mul_succ _ _
    rw [h5, ← Nat.add_assoc] at hm ⊢
    clear h5
    have h6 : m3 + 1000000000 ≤ 1000000000000000000 := by omega
    obtain ⟨o, kk, e1, l1, l2, f1⟩ := BoolS_held hN e.2.2.2.1 m3 h6 hk2
    rw [hm3] at e1 l1 l2 f1
    obtain ⟨o2, k2, e2, l3, l4, l5, f2⟩ := mhAct_l hN n (kk + 1) (done.length + 1) (done ++ [((m : Int), ((m + 1 : Nat) : Int), t4, o, (kk : Int))]) es (by simp) (by omega) (by omega) (fun a ha => hb a (by simp [ha])) (by omega)
    rw [List.append_assoc, List.singleton_append, List.append_assoc, List.singleton_append] at e2
    refine ⟨((m : Int), ((m + 1 : Nat) : Int), t4, o, (kk : Int)) :: o2, k2, ?_, by omega, by omega, by simp [l5], fun n2 d2 hd h2 => ?_⟩
    · simp (disch := omega) only [dec_t, cond_true, gd_true, Int.toNat_natCast, Option.bind_some, bind_id, nc1, wi_of, List.length_append, List.length_cons, mid_get, mid_set, ht4, e1, e2]
    · obtain ⟨n3, rfl⟩ : ∃ n3, n2 = n3 + 1 := ⟨n2 - 1, by omega⟩
      have g := f2 n3 (d2 ++ [((m : Int), ((m + 1 : Nat) : Int), t4, o, (kk : Int))]) (by simp [hd]) (by omega)
      rw [List.append_assoc, List.singleton_append] at g
      rw [← hd] at g ⊢
      unfold g_ce.l2
      simp (disch := omega) only [dec_t, dec_f, cond_true, cond_false, gd_true, Bool.not_true, Int.toNat_natCast, Option.bind_some, bind_id, nc1, wi_of, List.length_append, List.length_cons, mid_get, ht4, f1, bne_self_eq_false, beq_self_eq_true, g]
theorem ActS_held {N : Nat} (hN : 18446744073709551616 ≤ N) (c : List ActT) (hc : c.length ≤ 1048576) (hb : ∀ a ∈ c, a.2.2.2.1.length ≤ 1048576) : ∃ o : List ActT, ∃ k : Nat, g_cg N c 1 = some (o, (k : Int)) ∧ 1 ≤ k ∧ g_ce N o 1 = some (k : Int) := by
  obtain ⟨o, k, e, l1, _, _, f⟩ := mhAct_l hN N 1 0 [] c rfl (by omega) (by omega) hb (by omega)
  have g := f N [] rfl (by omega)
  rw [List.nil_append, Int.natCast_zero, show ((1 : Nat) : Int) = 1 from rfl] at e g
  rw [List.nil_append] at e
  refine ⟨o, k, ?_, l1, ?_⟩
  · unfold g_cg
    rw [e]; rfl
  · unfold g_ce
    rw [g]; rfl
/-- A text, sealed. -/
def sealF (key nonce extra b : List UInt8) : List UInt8 := ctrF (keysOf (key1 key)) nonce b ++ tagF (key2 key) nonce extra (ctrF (keysOf (key1 key)) nonce b)
theorem sealF_len (key nonce extra b : List UInt8) : (sealF key nonce extra b).length = b.length + 16 := by simp [sealF, ctrF_len, tagF_len]
theorem tagI {key nonce extra b : List UInt8} (hno : nonce.length = 12) (he : extra.length ≤ 1000000) (hb : b.length ≤ 1000000000) : g_bp N0 (key2 key) nonce extra b = some (tagF (key2 key) nonce extra b) := iTag (by rw [key2_len]; decide) (by rw [hno]; decide) he hb
theorem tagS {key nonce extra b : List UInt8} (hno : nonce.length = 12) (he : extra.length ≤ 1000000) (hb : b.length ≤ 1000000000) : g_ed N0 (key2 key) nonce extra b = some (tagF (key2 key) nonce extra b) := sTag (by rw [key2_len]; decide) (by rw [hno]; decide) he hb
theorem sealI {key nonce extra b K1 K2 C T : List UInt8} (h1 : g_bk N0 key = some (K1, K2)) (h2 : g_ar N0 K1 nonce b = some C) (h3 : g_bp N0 K2 nonce extra C = some T) (h4 : C.length ≤ 1000000000) (h5 : T.length = 16) : g_bj N0 key nonce extra b = some (C ++ T) := by
  unfold g_bj
  rw [h1, Option.bind_some]
  show ((g_ar N0 K1 nonce b).bind _) = _
  rw [h2, Option.bind_some]
  show ((g_bp N0 K2 nonce extra C).bind _) = _
  rw [h3, Option.bind_some]
  simp (disch := omega) only [dec_t, gd_true]
theorem sealS {key nonce extra b K1 K2 C T : List UInt8} (h1 : g_dz N0 key = some (K1, K2)) (h2 : g_dr N0 K1 nonce b = some C) (h3 : g_ed N0 K2 nonce extra C = some T) (h4 : C.length ≤ 1000000000) (h5 : T.length = 16) : g_ec N0 key nonce extra b = some (C ++ T) := by
  unfold g_ec
  rw [h1, Option.bind_some]
  show ((g_dr N0 K1 nonce b).bind _) = _
  rw [h2, Option.bind_some]
  show ((g_ed N0 K2 nonce extra C).bind _) = _
  rw [h3, Option.bind_some]
  simp (disch := omega) only [gd_true, room_t]
theorem iSeal {key nonce extra b : List UInt8} (hk : key.length ≤ 1000000) (hno : nonce.length = 12) (he : extra.length ≤ 1000000) (hb : b.length ≤ 1000000000) : g_bj N0 key nonce extra b = some (sealF key nonce extra b) :=
  sealI (iSealKeys hk) (iCtr (key1_len key) hno hb) (tagI hno he (by rw [ctrF_len]; exact hb)) (by rw [ctrF_len]; exact hb) (tagF_len _ _ _ _)
theorem sSeal {key nonce extra b : List UInt8} (hk : key.length ≤ 1000000) (hno : nonce.length = 12) (he : extra.length ≤ 1000000) (hb : b.length ≤ 1000000000) : g_ec N0 key nonce extra b = some (sealF key nonce extra b) :=
  sealS (sSealKeys hk) (sCtr (key1_len key) hno hb) (tagS hno he (by rw [ctrF_len]; exact hb)) (by rw [ctrF_len]; exact hb) (tagF_len _ _ _ _)
/-- A slot's bytes. -/
def slotF (key : List UInt8) (place e : Int) (b : List UInt8) : List UInt8 := bytesN 4 e ++ sealF key (nonceF place e) slotW b
theorem slotF_len (key : List UInt8) (place e : Int) (b : List UInt8) : (slotF key place e b).length = b.length + 20 := by simp [slotF, sealF_len, bytesN_length]; omega
theorem iSlotBytes {key : List UInt8} {place e : Int} {b : List UInt8} (hk : key.length ≤ 1000000) (hb : b.length ≤ 1000000000) : g_bm N0 key place (e, b) = some (slotF key place e b) := by
  have h1 := iSeal (key := key) (nonce := nonceF place e) (extra := slotW) (b := b) hk (nonceF_len _ _) (by simp [slotW]) hb
  have h2 := sealF_len key (nonceF place e) slotW b
  have h3 := bytesN_length 4 e
  unfold g_bm slotF
  unfold slotW at h1 h2 ⊢
  simp (disch := omega) only [dec_t, gd_true, Option.bind_some, iFour, iNonce, h1]
theorem sSlotBytes {key : List UInt8} {place e : Int} {b : List UInt8} (hk : key.length ≤ 1000000) (hb : b.length ≤ 1000000000) : g_ef N0 key place (e, b) = some (slotF key place e b) := by
  have h1 := sSeal (key := key) (nonce := nonceF place e) (extra := slotW) (b := b) hk (nonceF_len _ _) (by simp [slotW]) hb
  have h2 := sealF_len key (nonceF place e) slotW b
  have h3 := bytesN_length 4 e
  unfold g_ef slotF
  unfold slotW at h1 h2 ⊢
  simp (disch := omega) only [gd_true, Option.bind_some, room_t, sFourB, sNonce, h1]
theorem rdSlot_ep {key : List UInt8} {place : Int} {b : List UInt8} {s : Int × List UInt8} (h : rdSlot key place b = some s) : 1 ≤ s.1 ∧ s.1 ≤ 4294967295 := by
  unfold rdSlot at h
  split at h
  · simp at h
  · split at h
    · split at h
      · rename_i q
        simp only [slotOK, Bool.and_eq_true, decide_eq_true_eq] at q
        simp only [Option.some.injEq] at h
        subst h
        exact q.1
      · simp at h
    · simp at h
theorem best_ep {s : Option (Int × List UInt8)} {cur : Int × List UInt8} (h1 : ∀ x, s = some x → 1 ≤ x.1 ∧ x.1 ≤ 4294967295) (h2 : 0 ≤ cur.1 ∧ cur.1 ≤ 4294967295) : 0 ≤ (best s cur).1 ∧ (best s cur).1 ≤ 4294967295 := by
  unfold best
  split
  · rename_i x
    have := h1 x rfl
    split <;> omega
  · exact h2
theorem openF_ep (key : List UInt8) (d : DiskT) : 0 ≤ (openF key d).1 ∧ (openF key d).1 ≤ 4294967295 := best_ep (fun _ h => rdSlot_ep h) (best_ep (fun _ h => rdSlot_ep h) (by decide))
/-- The acts that write a slot. -/
def planF (key : List UInt8) (e : Int) (data : List UInt8) : List ActT := [(2, 0, [], [], 0), (1, e.tmod 2, slotF key (e.tmod 2) e data, [], 0), (2, 0, [], [], 0)]
theorem planF_bd (key : List UInt8) (e : Int) (data : List UInt8) (h : data.length ≤ 170) : bdDiskActS 1000000 (planF key e data) := by
  have := slotF_len key (e.tmod 2) e data
  refine ⟨by simp [planF], fun y hy => ?_⟩
  simp only [planF, List.mem_cons, List.not_mem_nil, or_false] at hy
  rcases hy with rfl | rfl | rfl
  · exact ⟨by simp, by simp [bdBoolS]⟩
  · exact ⟨by simp only []; omega, by simp [bdBoolS]⟩
  · exact ⟨by simp, by simp [bdBoolS]⟩
/-- What SlotPlan answers. -/
def slotPlanF (key : List UInt8) (d : DiskT) (data : List UInt8) : List ActT × Int :=
  if 65536 < data.length ∨ 65536 < key.length then ([], 2) else if slCode key d = 0 then
    if data.length ≤ 170 ∧ (openF key d).1 ≠ 4294967295 then (planF key ((openF key d).1 + 1) data, 0) else ([], 7)
  else ([], slCode key d)
theorem iSlotPlan {key data : List UInt8} {d : DiskT} (h1 : d.1.length ≤ 1048576) (h2 : d.2.1.length ≤ 1048576) (h3 : d.2.2.length ≤ 1048576) (hk : key.length ≤ 1048576) (hd : data.length ≤ 1048576) : g_ai N0 key d data = some (slotPlanF key d data) := by
  unfold g_ai slotPlanF
  rw [isLongS_eq hN0 data, iSlCode h1 h2 h3]
  by_cases q0 : 65536 < data.length
  · rw [if_pos (show 65536 < data.length ∨ 65536 < key.length from .inl q0)]
    simp (disch := omega) only [dec_t, cond_true, Option.bind_some]
  by_cases q1 : 65536 < key.length
  · rw [if_pos (show 65536 < data.length ∨ 65536 < key.length from .inr q1)]
    simp (disch := omega) only [dec_f, cond_true, cond_false, Option.bind_some, bne_ti, if_pos q1]
  rw [if_neg (show ¬ (65536 < data.length ∨ 65536 < key.length) by omega)]
  by_cases q2 : slCode key d = 0
  · obtain ⟨p1, p2, p3⟩ := slCode_ok q2
    have e1 := iOpenF (key := key) p2 p3 (by omega)
    obtain ⟨r1, r2⟩ := openF_ep key d
    have w : wi ((openF key d).1 + 1) = (openF key d).1 + 1 := wi_of (by omega) (by omega)
    rw [if_pos q2]
    by_cases q3 : data.length ≤ 170 ∧ (openF key d).1 ≠ 4294967295
    · have ok : slotOK ((openF key d).1 + 1) data = true := by
        simp only [slotOK, Bool.and_eq_true, decide_eq_true_eq]
        exact ⟨⟨by omega, by omega⟩, q3.1⟩
      rw [if_pos q3]
      have hs := iSlotBytes (key := key) (place := ((openF key d).1 + 1).tmod 2) (e := (openF key d).1 + 1) (b := data) (by omega) (by omega)
      simp (disch := omega) only [dec_f, cond_false, Bool.not_true, Option.bind_some, wi_of, bne_fi, if_neg q1, q2, e1, iSlotOK, ok, hs, planF]
    · have ok : slotOK ((openF key d).1 + 1) data = false := by
        rw [Bool.eq_false_iff]
        intro h
        simp only [slotOK, Bool.and_eq_true, decide_eq_true_eq] at h
        exact q3 ⟨h.2, by omega⟩
      rw [if_neg q3]
      simp (disch := omega) only [dec_f, cond_true, cond_false, Bool.not_false, Option.bind_some, wi_of, bne_fi, if_neg q1, q2, e1, iSlotOK, ok]
  · rw [if_neg q2]
    simp (disch := omega) only [dec_f, cond_true, cond_false, Option.bind_some, bne_ti, if_neg q1]
theorem sSlotPlan {key data : List UInt8} {d : DiskT} (h1 : d.1.length ≤ 1048576) (h2 : d.2.1.length ≤ 1048576) (h3 : d.2.2.length ≤ 1048576) (hk : key.length ≤ 1048576) (hd : data.length ≤ 1048576) : g_dd N0 key d data = some (slotPlanF key d data) := by
  unfold g_dd slotPlanF
  rw [sSlCode h1 h2 h3 hk]
  by_cases q1 : 65536 < key.length
  · rw [if_pos (show 65536 < data.length ∨ 65536 < key.length from .inr q1)]
    simp (disch := omega) only [dec_t, cond_true, Option.bind_some]
  by_cases q0 : 65536 < data.length
  · rw [if_pos (show 65536 < data.length ∨ 65536 < key.length from .inl q0)]
    simp (disch := omega) only [dec_t, dec_f, cond_true, cond_false, Option.bind_some]
  rw [if_neg (show ¬ (65536 < data.length ∨ 65536 < key.length) by omega)]
  by_cases q2 : slCode key d = 0
  · obtain ⟨p1, p2, p3⟩ := slCode_ok q2
    have e1 := sOpenF (key := key) p2 p3 (by omega)
    obtain ⟨r1, r2⟩ := openF_ep key d
    have w : wi ((openF key d).1 + 1) = (openF key d).1 + 1 := wi_of (by omega) (by omega)
    rw [if_pos q2]
    by_cases q3 : data.length ≤ 170
    · by_cases q4 : (openF key d).1 = 4294967295
      · rw [if_neg (show ¬ (data.length ≤ 170 ∧ (openF key d).1 ≠ 4294967295) from fun h => h.2 q4)]
        simp (disch := omega) only [dec_f, cond_true, cond_false, Option.bind_some, beq_ti, bne_fi, q2, e1]
      · rw [if_pos (show data.length ≤ 170 ∧ (openF key d).1 ≠ 4294967295 from ⟨q3, q4⟩)]
        have hs := sSlotBytes (key := key) (place := ((openF key d).1 + 1).tmod 2) (e := (openF key d).1 + 1) (b := data) (by omega) (by omega)
        unfold g_ej
        simp (disch := omega) only [dec_f, cond_false, Option.bind_some, wi_of, beq_fi, bne_fi, q2, e1, hs, planF]
    · rw [if_neg (show ¬ (data.length ≤ 170 ∧ (openF key d).1 ≠ 4294967295) from fun h => q3 h.1)]
      simp (disch := omega) only [dec_t, dec_f, cond_true, cond_false, Option.bind_some, bne_fi, q2]
  · rw [if_neg q2]
    simp (disch := omega) only [dec_f, cond_true, cond_false, Option.bind_some, bne_ti]
theorem slotPlanF_bd (key : List UInt8) (d : DiskT) (data : List UInt8) : bdDiskActS 1000000 (slotPlanF key d data).1 := by
  unfold slotPlanF
  split
  · exact ⟨by simp, by simp⟩
  · split
    · split
      · rename_i h
        exact planF_bd _ _ _ h.1
      · exact ⟨by simp, by simp⟩
    · exact ⟨by simp, by simp⟩
theorem FnExactSlotPlan_true (key : List UInt8) (d : DiskT) (data : List UInt8) (h1 : bdDisk 9223372036854775807 d) : g_bv N0 key d data = some true := by
  unfold g_bv
  by_cases q0 : key.length > 1048576
  · simp (disch := omega) only [dec_t, cond_true]
  by_cases q00 : data.length > 1048576
  · simp (disch := omega) only [dec_t, dec_f, cond_true, cond_false]
  obtain ⟨r1, e1, k1⟩ := szDisk_eq hN0 d 1048576 (by omega) (by omega) h1
  by_cases q1 : r1 < 0
  · simp (disch := omega) only [dec_t, dec_f, cond_true, cond_false, Option.bind_some, e1]
  obtain ⟨k1a, k1b⟩ := k1 (by omega)
  have b1 := bdDisk_mono (show 1048576 ≤ 1000000000 by omega) k1b
  have t1 := toDisk_eq hN0 d b1
  have g2 := eqDisk_eq hN0 d d b1
  have f1 := iSlotPlan (key := key) (data := data) (d := d) k1b.1.1 k1b.2.1.1 k1b.2.2.1 (by omega) (by omega)
  have f2 := sSlotPlan (key := key) (data := data) (d := d) k1b.1.1 k1b.2.1.1 k1b.2.2.1 (by omega) (by omega)
  have b3 := slotPlanF_bd key d data
  have g3 := eqDiskActS_eq hN0 (slotPlanF key d data).1 (slotPlanF key d data).1 (bdDiskActS_mono (by omega) b3)
  obtain ⟨o1, o2, o3, k, m1, m2, m3⟩ := Disk_marked hN0 d 1 (by omega) b1
  rw [show ((1 : Nat) : Int) = 1 from rfl] at m1
  obtain ⟨p1, k2, n1, n2, n3⟩ := ActS_held hN0 (slotPlanF key d data).1 (by have := b3.1; omega) (fun a ha => by have := (b3.2 a ha).2; show a.2.2.2.1.length ≤ 1048576; have : a.2.2.2.1.length ≤ 1000000 := this; omega)
  simp (disch := omega) only [dec_f, decide_true, cond_false, Bool.not_true, Option.bind_some, e1, t1, f1, f2, g2, g3, m1, n1, n3, decide_true, bne_self_eq_false]
theorem law_FnExactSlotPlan (key : List UInt8) (d : DiskT) (data : List UInt8) {p q : Prop} (_ : p) (h1 : InR (.st (.pair (.sl .str) (.pair (.sl (.st (.pair (.int .i64) .str))) (.sl .str)))) d) (_ : q) : ∃ N, g_bv N key d data = some true :=
  ⟨N0, FnExactSlotPlan_true key d data ⟨h1.1, ⟨h1.2.1.1, fun y hy => (h1.2.1.2 y hy).2⟩, h1.2.2⟩⟩
end Go.Vm

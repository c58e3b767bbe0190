/- A part of the proof: an abstract machine, mirrors and their laws, one text behind the other. -/
import Derived.Test.YtfphingbjjhjcaaVA5
/- CTR, drawn keys, tags, seals: the program's and the reference's. -/
set_option linter.unusedVariables false
set_option maxRecDepth 100000
namespace Go.Vm
theorem hN0 : 18446744073709551616 ≤ N0 := Nat.le_refl _
theorem iFour (x : Int) : g_impl_bytesOf N0 x 4 = some (bytesN 4 x) := bytesOf_eq hN0 x 4 (by omega)
theorem iOne (x : Int) : g_impl_bytesOf N0 x 1 = some [wb x] := bytesOf_eq hN0 x 1 (by omega)
theorem sFourB (x : Int) : g_spec_l02Four N0 x = some (bytesN 4 x) := by rw [bytesN4]; rfl
/-- The stream's i-th byte. -/
def strm (K : List (List UInt8)) (nonce : List UInt8) (i : Nat) : UInt8 := (aesB K (nonce ++ bytesN 4 ((i / 16 + 1 : Nat) : Int)))[i % 16]?.getD 0
def ctrF (K : List (List UInt8)) (nonce b : List UInt8) : List UInt8 := b.mapIdx fun i x => xb x (strm K nonce i)
theorem ctrF_len (K : List (List UInt8)) (nonce b : List UInt8) : (ctrF K nonce b).length = b.length := by simp [ctrF]
theorem ctrF_get {K : List (List UInt8)} {nonce b : List UInt8} {i : Nat} (h : i < b.length) : (ctrF K nonce b)[i]'(by rw [ctrF_len]; exact h) = xb b[i] (strm K nonce i) := by simp [ctrF]
/-- .. put on up to q. -/
def ctrQ (K : List (List UInt8)) (nonce b : List UInt8) (q : Nat) : List UInt8 := (ctrF K nonce b).take q ++ b.drop q
theorem ctrQ_len (K : List (List UInt8)) (nonce b : List UInt8) (q : Nat) : (ctrQ K nonce b q).length = b.length := by simp [ctrQ, ctrF_len]; omega
theorem ctrQ_end {K : List (List UInt8)} {nonce b : List UInt8} {q : Nat} (h : b.length ≤ q) : ctrQ K nonce b q = ctrF K nonce b := by
  unfold ctrQ
  rw [List.take_of_length_le (by rw [ctrF_len]; exact h), List.drop_of_length_le h, List.append_nil]
theorem ctrQ_min (K : List (List UInt8)) (nonce b : List UInt8) (q : Nat) : ctrQ K nonce b (min q b.length) = ctrQ K nonce b q := by
  by_cases h : q ≤ b.length
  · rw [Nat.min_eq_left h]
  · rw [Nat.min_eq_right (by omega), ctrQ_end (Nat.le_refl _), ctrQ_end (by omega)]
theorem ctrQ_step {K : List (List UInt8)} {nonce b : List UInt8} {q : Nat} (h : q < b.length) : (ctrQ K nonce b q)[q]? = some b[q] ∧ (ctrQ K nonce b q).set q (xb b[q] (strm K nonce q)) = ctrQ K nonce b (q + 1) := by
  have hl := ctrF_len K nonce b
  refine ⟨get_step (xs := ctrF K nonce b) (z := b) (by omega) hl.symm, ?_⟩
  have := set_step (xs := ctrF K nonce b) (z := b) (k := q) (by omega) hl.symm
  rw [ctrF_get h] at this
  exact this
theorem strm_get {K : List (List UInt8)} {nonce : List UInt8} {j q : Nat} {kb : List UInt8} (hkb : kb = aesB K (nonce ++ bytesN 4 ((j + 1 : Nat) : Int))) (hl : kb.length = 16) (h1 : 16 * j ≤ q) (h2 : q < 16 * j + 16) : kb[q - 16 * j]? = some (strm K nonce q) := by
  unfold strm
  rw [show q / 16 = j by omega, ← hkb, show q % 16 = q - 16 * j by omega, get_t (by omega)]; rfl
theorem ctr_l8 {T U nonce b kb : List UInt8} {K : List (List UInt8)} {j : Nat} (hb : b.length ≤ 1000000000) (hkb : kb = aesB K (nonce ++ bytesN 4 ((j + 1 : Nat) : Int))) (hl : kb.length = 16) (hj : 16 * j < b.length) : ∀ (n q : Nat), min (16 * j + 16) b.length ≤ q + n - 1 → 0 < n → 16 * j ≤ q → q ≤ min (16 * j + 16) b.length →
    g_impl_ctr.l8 N0 n nonce ((16 * j : Nat) : Int) (q : Int) T U (ctrQ K nonce b q) kb K = some (T, U, ctrQ K nonce b (16 * j + 16), K)
  | 0, _, _, h, _, _ => by omega
  | n + 1, q, hn, _, hq, hq2 => by
    unfold g_impl_ctr.l8
    have hlen := ctrQ_len K nonce b q
    have hmin : (min (wi (((16 * j : Nat) : Int) + 16)) ((ctrQ K nonce b q).length : Int)) = ((min (16 * j + 16) b.length : Nat) : Int) := by rw [hlen, wi_of (by omega) (by omega)]; omega
    by_cases h : q < min (16 * j + 16) b.length
    · have hqb : q < b.length := by omega
      obtain ⟨g1, g2⟩ := ctrQ_step (K := K) (nonce := nonce) (b := b) hqb
      have g3 := strm_get hkb hl hq (by omega)
      have ih := ctr_l8 (T := T) (U := U) hb hkb hl hj n (q + 1) (by omega) (by omega) (by omega) (by omega)
      have es : ((q : Int) - ((16 * j : Nat) : Int)) = ((q - 16 * j : Nat) : Int) := by omega
      unfold xb at g2
      rw [hmin]
      simp (disch := omega) only [dec_t, cond_true, gd_true, Int.toNat_natCast, Option.bind_some, bind_id, nc1, wi_of, es, g1, g3, g2, ih]
    · have e : q = min (16 * j + 16) b.length := by omega
      rw [hmin]
      rw [e, ctrQ_min]
      simp (disch := omega) only [dec_t, dec_f, cond_false, gd_true, Int.toNat_natCast, bind_id, nc1, wi_of]
theorem ctr_l9 {nonce b kb : List UInt8} {K : List (List UInt8)} {j : Nat} (hb : b.length ≤ 1000000000) (hkb : kb = aesB K (nonce ++ bytesN 4 ((j + 1 : Nat) : Int))) (hl : kb.length = 16) (hj : 16 * j < b.length) : ∀ (n q : Nat), min (16 * j + 16) b.length ≤ q + n - 1 → 0 < n → 16 * j ≤ q → q ≤ min (16 * j + 16) b.length →
    g_spec_l02Ctr.l9 N0 n nonce ((16 * j : Nat) : Int) kb (q : Int) SBI K (ctrQ K nonce b q) = some (SBI, K, ctrQ K nonce b (16 * j + 16))
  | 0, _, _, h, _, _ => by omega
  | n + 1, q, hn, _, hq, hq2 => by
    unfold g_spec_l02Ctr.l9
    have hlen := ctrQ_len K nonce b q
    by_cases h : q < min (16 * j + 16) b.length
    · have hqb : q < b.length := by omega
      obtain ⟨g1, g2⟩ := ctrQ_step (K := K) (nonce := nonce) (b := b) hqb
      have g3 := strm_get hkb hl hq (by omega)
      have ih := ctr_l9 hb hkb hl hj n (q + 1) (by omega) (by omega) (by omega) (by omega)
      have es : ((q : Int) - ((16 * j : Nat) : Int)) = ((q - 16 * j : Nat) : Int) := by omega
      unfold xb at g2
      simp (disch := omega) only [dec_t, cond_true, gd_true, Int.toNat_natCast, Option.bind_some, bind_id, nc1, wi_of, es, g1, g3, g2, ih]
    · have e : q = min (16 * j + 16) b.length := by omega
      rw [e, ctrQ_min]
      by_cases h3 : 16 * j + 16 < b.length
      · have hlen2 := ctrQ_len K nonce b (16 * j + 16)
        simp (disch := omega) only [dec_t, dec_f, cond_true, cond_false, gd_true, Int.toNat_natCast, bind_id, nc1, wi_of]
      · have hlen2 := ctrQ_len K nonce b (16 * j + 16)
        simp (disch := omega) only [dec_t, dec_f, cond_false, gd_true, Int.toNat_natCast, bind_id, nc1, wi_of]
theorem ctr_l4 {U nonce b : List UInt8} {K : List (List UInt8)} (hK : ∀ k ∈ K, k.length = 16) (hKl : K.length = 15) (hno : nonce.length = 12) (hb : b.length ≤ 1000000000) : ∀ (n j : Nat), b.length ≤ j + n - 1 → 0 < n →
    g_impl_ctr.l4 N0 n nonce ((16 * j : Nat) : Int) SB U (ctrQ K nonce b (16 * j)) K = some (ctrF K nonce b)
  | 0, _, _, h => by omega
  | n + 1, j, hn, _ => by
    unfold g_impl_ctr.l4
    have hlen := ctrQ_len K nonce b (16 * j)
    by_cases h : 16 * j < b.length
    · have hbl : (nonce ++ bytesN 4 ((j + 1 : Nat) : Int)).length = 16 := by rw [List.length_append, bytesN_length, hno]
      have he := iEnc U hK (by omega) (by omega) hbl
      have hel := aesB_len hK (by omega) hbl
      have h8 := ctr_l8 (T := SB) (U := U) (K := K) (nonce := nonce) hb rfl hel h N0 (16 * j) (by unfold N0; omega) (by unfold N0; omega) (by omega) (by omega)
      have ih := ctr_l4 (U := U) hK hKl hno hb n (j + 1) (by omega) (by omega)
      have ed : Int.tdiv ((16 * j : Nat) : Int) 16 = (j : Int) := by rw [show Int.tdiv ((16 * j : Nat) : Int) 16 = ((16 * j / 16 : Nat) : Int) from rfl]; omega
      have e16 : (((16 * j : Nat) : Int) + 16) = ((16 * (j + 1) : Nat) : Int) := by omega
      have et : ((nonce ++ bytesN 4 ((j + 1 : Nat) : Int)).drop 0).take 16 = nonce ++ bytesN 4 ((j + 1 : Nat) : Int) := by rw [List.drop_zero, List.take_of_length_le (by omega)]
      have hb4 := bytesN_length 4 ((j + 1 : Nat) : Int)
      rw [show 16 * j + 16 = 16 * (j + 1) by omega] at h8
      simp (disch := omega) only [dec_t, cond_true, gd_true, Option.bind_some, bind_id, nc1, wi_of, List.length_append, ed, iFour, et, he, h8, e16, ih]
    · rw [ctrQ_end (by omega)]
      have hlen3 := ctrF_len K nonce b
      simp (disch := omega) only [dec_f, cond_false, bind_id, List.length_append]
theorem ctr_l5 {nonce b : List UInt8} {K : List (List UInt8)} (hK : ∀ k ∈ K, k.length = 16) (hKl : K.length = 15) (hno : nonce.length = 12) (hb : b.length ≤ 1000000000) : ∀ (n j : Nat), b.length ≤ j + n - 1 → 0 < n →
    g_spec_l02Ctr.l5 N0 n nonce ((16 * j : Nat) : Int) SBI K (ctrQ K nonce b (16 * j)) = some (ctrF K nonce b)
  | 0, _, _, h => by omega
  | n + 1, j, hn, _ => by
    unfold g_spec_l02Ctr.l5
    have hlen := ctrQ_len K nonce b (16 * j)
    by_cases h : 16 * j < b.length
    · have hbl : (nonce ++ bytesN 4 ((j + 1 : Nat) : Int)).length = 16 := by rw [List.length_append, bytesN_length, hno]
      have he := sEnc hK (by omega) (by omega) hbl
      have hel := aesB_len hK (by omega) hbl
      have h9 := ctr_l9 (K := K) (nonce := nonce) hb rfl hel h N0 (16 * j) (by unfold N0; omega) (by unfold N0; omega) (by omega) (by omega)
      have ih := ctr_l5 hK hKl hno hb n (j + 1) (by omega) (by omega)
      have ed : Int.tdiv ((16 * j : Nat) : Int) 16 = (j : Int) := by rw [show Int.tdiv ((16 * j : Nat) : Int) 16 = ((16 * j / 16 : Nat) : Int) from rfl]; omega
      have e16 : (((16 * j : Nat) : Int) + 16) = ((16 * (j + 1) : Nat) : Int) := by omega
      have e1 : (1 + (j : Int)) = ((j + 1 : Nat) : Int) := by omega
      have hb4 := bytesN_length 4 ((j + 1 : Nat) : Int)
      rw [show 16 * j + 16 = 16 * (j + 1) by omega] at h9
      simp (disch := omega) only [dec_t, cond_true, gd_true, Option.bind_some, bind_id, wi_of, ed, e1, sFourB, he, h9, e16, ih]
    · rw [ctrQ_end (by omega)]
      have hlen3 := ctrF_len K nonce b
      simp (disch := omega) only [dec_f, cond_false, bind_id]
theorem iCtr {key nonce b : List UInt8} (hk : key.length = 32) (hno : nonce.length = 12) (hb : b.length ≤ 1000000000) : g_impl_ctr N0 key nonce b = some (ctrF (keysOf key) nonce b) := by
  obtain ⟨U, e⟩ := iCipher hk
  obtain ⟨k1, k2⟩ := keysOf_spec hk
  have e4 := ctr_l4 (U := U) (b := b) k2 k1 hno hb N0 0 (by unfold N0; omega) (by unfold N0; omega)
  have hq : ctrQ (keysOf key) nonce b 0 = b := by simp [ctrQ]
  rw [show 16 * 0 = 0 from rfl, hq, Int.natCast_zero] at e4
  have hc : g_bytes_Clone N0 b = some b := by
    unfold g_bytes_Clone g_bytes_Clone_v
    cases b with
    | nil => rfl
    | cons x l =>
      rw [show (x :: l).isEmpty = false from rfl, cond_false, cond_false, gd_t (room_t (by omega))]
      rfl
  unfold g_impl_ctr
  simp only [e, hc, e4, Option.bind_some]
theorem sCtr {key nonce b : List UInt8} (hk : key.length = 32) (hno : nonce.length = 12) (hb : b.length ≤ 1000000000) : g_spec_l02Ctr N0 key nonce b = some (ctrF (keysOf key) nonce b) := by
  obtain ⟨k1, k2⟩ := keysOf_spec hk
  have e5 := ctr_l5 (b := b) k2 k1 hno hb N0 0 (by unfold N0; omega) (by unfold N0; omega)
  have hq : ctrQ (keysOf key) nonce b 0 = b := by simp [ctrQ]
  rw [show 16 * 0 = 0 from rfl, hq, Int.natCast_zero] at e5
  unfold g_spec_l02Ctr
  rw [List.nil_append]
  simp (disch := omega) only [gd_true, Option.bind_some, bind_id, room_t, sTab, sKeys hk, e5]
/-! ### Drawn keys -/
def exp1 (key info : List UInt8) : List UInt8 := hmac key (info ++ [wb 1])
def exp2 (key info : List UInt8) : List UInt8 := exp1 key info ++ hmac key (exp1 key info ++ info ++ [wb (1 + 1)])
theorem exp2_len (key info : List UInt8) : (exp2 key info).length = 64 := by simp only [exp2, exp1, List.length_append, hmac_length]
theorem exp_l3 {key info : List UInt8} (hk : key.length ≤ 1000000) (hi : info.length ≤ 1000) (n : Nat) : g_impl_expand.l3 N0 (n + 3) key info 64 [] [] 1 = some (exp2 key info) := by
  have h1 := iHmac hN0 key (info ++ [wb 1]) (by omega) (by simp; omega)
  have hl1 := hmac_length key (info ++ [wb 1])
  have h2 := iHmac hN0 key (exp1 key info ++ info ++ [wb (1 + 1)]) (by omega) (by simp [exp1, hmac_length]; omega)
  have hl2 := hmac_length key (exp1 key info ++ info ++ [wb (1 + 1)])
  unfold exp1 at h2 hl2
  simp (disch := omega) only [g_impl_expand.l3, List.nil_append, iOne, h1, hl1, h2, hl2, exp2, exp1, dec_t, dec_f, cond_true, cond_false, gd_true, Option.bind_some, bind_id, wi_of, List.length_append, List.length_cons, List.length_nil]
theorem exp_l4 {key info : List UInt8} (hk : key.length ≤ 1000000) (hi : info.length ≤ 1000) (n : Nat) : g_spec_l03Expand.l4 N0 (n + 3) key info 64 [] [] 1 = some (exp2 key info) := by
  have h1 := sHmac hN0 key (info ++ [wb 1]) (by omega) (by simp; omega)
  have hl1 := hmac_length key (info ++ [wb 1])
  have h2 := sHmac hN0 key (exp1 key info ++ info ++ [wb (1 + 1)]) (by omega) (by simp [exp1, hmac_length]; omega)
  have hl2 := hmac_length key (exp1 key info ++ info ++ [wb (1 + 1)])
  unfold exp1 at h2 hl2
  simp (disch := omega) only [g_spec_l03Expand.l4, List.nil_append, h1, hl1, h2, hl2, exp2, exp1, dec_t, dec_f, cond_true, cond_false, gd_true, Option.bind_some, bind_id, wi_of, room_t, List.length_append, List.length_cons, List.length_nil]
def sealW : List UInt8 := [115, 101, 97, 108]
def keysW : List UInt8 := [107, 101, 121, 115]
def key1 (key : List UInt8) : List UInt8 := (exp2 (hmac sealW key) keysW).take 32
def key2 (key : List UInt8) : List UInt8 := (exp2 (hmac sealW key) keysW).drop 32
theorem key1_len (key : List UInt8) : (key1 key).length = 32 := by simp [key1, exp2_len]
theorem key2_len (key : List UInt8) : (key2 key).length = 32 := by simp [key2, exp2_len]
theorem iSealKeys {key : List UInt8} (hk : key.length ≤ 1000000) : g_impl_sealKeys N0 key = some (key1 key, key2 key) := by
  have h1 := iHmac hN0 sealW key (by simp [sealW]) (by omega)
  unfold sealW at h1
  have hl := hmac_length sealW key
  have h2 := exp_l3 (key := hmac sealW key) (info := keysW) (by omega) (by simp [keysW]) 18446744073709551613
  have hl2 := exp2_len (hmac sealW key) keysW
  unfold g_impl_sealKeys g_impl_expand
  rw [show (18446744073709551613 + 3 : Nat) = N0 from rfl] at h2
  unfold key1 key2
  unfold sealW keysW at h2 hl2 ⊢
  have e64 : Int.toNat 64 = 64 := rfl
  have ht : (exp2 (hmac [115, 101, 97, 108] key) [107, 101, 121, 115]).take 64 = exp2 (hmac [115, 101, 97, 108] key) [107, 101, 121, 115] := List.take_of_length_le (by omega)
  simp (disch := omega) only [dec_t, gd_true, Bool.and_true, Bool.true_and, Option.bind_some, h1, h2, e64, ht, List.drop_zero, List.take_length, hl2]
theorem sSealKeys {key : List UInt8} (hk : key.length ≤ 1000000) : g_spec_l04Keys N0 key = some (key1 key, key2 key) := by
  have h1 := sHmac hN0 sealW key (by simp [sealW]) (by omega)
  unfold sealW at h1
  have hl := hmac_length sealW key
  have h2 := exp_l4 (key := hmac sealW key) (info := keysW) (by omega) (by simp [keysW]) 18446744073709551613
  have hl2 := exp2_len (hmac sealW key) keysW
  unfold g_spec_l04Keys g_spec_l03Expand
  rw [show (18446744073709551613 + 3 : Nat) = N0 from rfl] at h2
  unfold key1 key2
  unfold sealW keysW at h2 hl2 ⊢
  have e64 : Int.toNat 64 = 64 := rfl
  have ht : (exp2 (hmac [115, 101, 97, 108] key) [107, 101, 121, 115]).take 64 = exp2 (hmac [115, 101, 97, 108] key) [107, 101, 121, 115] := List.take_of_length_le (by omega)
  simp (disch := omega) only [dec_t, gd_true, Bool.and_true, Bool.true_and, Option.bind_some, h1, h2, e64, ht, List.drop_zero, List.take_length, hl2]
/-! ### Tags, seals -/
def tagF (key nonce extra b : List UInt8) : List UInt8 := (hmac key (nonce ++ bytesN 4 (extra.length : Int) ++ extra ++ b)).take 16
theorem iTag {key nonce extra b : List UInt8} (hk : key.length ≤ 1000000) (hno : nonce.length ≤ 1000000) (he : extra.length ≤ 1000000) (hb : b.length ≤ 1000000000) : g_impl_tag N0 key nonce extra b = some (tagF key nonce extra b) := by
  have hb4 := bytesN_length 4 (extra.length : Int)
  have h1 := iHmac hN0 key (nonce ++ bytesN 4 (extra.length : Int) ++ extra ++ b) (by omega) (by simp [hb4]; omega)
  have hl := hmac_length key (nonce ++ bytesN 4 (extra.length : Int) ++ extra ++ b)
  unfold g_impl_tag tagF
  simp (disch := omega) only [dec_t, gd_true, Bool.true_and, Option.bind_some, List.length_append, iFour, h1, List.drop_zero]
theorem sTag {key nonce extra b : List UInt8} (hk : key.length ≤ 1000000) (hno : nonce.length ≤ 1000000) (he : extra.length ≤ 1000000) (hb : b.length ≤ 1000000000) : g_spec_l04Tag N0 key nonce extra b = some (tagF key nonce extra b) := by
  have hb4 := bytesN_length 4 (extra.length : Int)
  have h1 := sHmac hN0 key (nonce ++ bytesN 4 (extra.length : Int) ++ extra ++ b) (by omega) (by simp [hb4]; omega)
  have hl := hmac_length key (nonce ++ bytesN 4 (extra.length : Int) ++ extra ++ b)
  unfold g_spec_l04Tag tagF
  simp (disch := omega) only [dec_t, gd_true, Bool.true_and, Option.bind_some, room_t, List.length_append, sFourB, h1, List.drop_zero]
def unsF (key nonce extra b : List UInt8) : List UInt8 × Bool :=
  if b.length < 16 then ([], false) else if tagF (key2 key) nonce extra (b.take (b.length - 16)) = b.drop (b.length - 16) then (ctrF (keysOf (key1 key)) nonce (b.take (b.length - 16)), true) else ([], false)
theorem iUnseal {key nonce extra b : List UInt8} (hk : key.length ≤ 1000000) (hno : nonce.length = 12) (he : extra.length ≤ 1000000) (hb : b.length ≤ 1000000000) : g_impl_unseal N0 key nonce extra b = some (unsF key nonce extra b) := by
  unfold g_impl_unseal unsF
  by_cases h : b.length < 16
  · rw [if_pos h]; simp (disch := omega) only [dec_t, dec_f, cond_true, gd_true, Bool.and_self, Int.toNat_natCast, wi_of, List.length_take, List.length_drop]
  · rw [if_neg h]
    have es : ((b.length : Int) - 16) = ((b.length - 16 : Nat) : Int) := by omega
    have ht := iTag (key := key2 key) (nonce := nonce) (extra := extra) (b := b.take (b.length - 16)) (by rw [key2_len]; omega) (by omega) he (by simp; omega)
    have hc := iCtr (key := key1 key) (nonce := nonce) (b := b.take (b.length - 16)) (key1_len key) hno (by simp; omega)
    have hm : min (b.length - 16) b.length = b.length - 16 := by omega
    by_cases hq : tagF (key2 key) nonce extra (b.take (b.length - 16)) = b.drop (b.length - 16)
    · rw [if_pos hq]
      simp (disch := omega) only [dec_t, dec_f, cond_false, gd_true, Bool.not_true, Bool.and_self, Int.toNat_natCast, Option.bind_some, wi_of, List.length_take, es, iSealKeys hk, List.drop_zero, List.take_length, ht, hm, hq, beq_self_eq_true, hc]
    · rw [if_neg hq]
      have hq2 : (tagF (key2 key) nonce extra (b.take (b.length - 16)) == b.drop (b.length - 16)) = false := by simpa using hq
      simp (disch := omega) only [dec_t, dec_f, cond_true, cond_false, gd_true, Bool.not_false, Bool.and_self, Int.toNat_natCast, Option.bind_some, wi_of, List.length_take, es, iSealKeys hk, List.drop_zero, List.take_length, ht, hm, hq2]
theorem sOpen {key nonce extra b : List UInt8} (hk : key.length ≤ 1000000) (hno : nonce.length = 12) (he : extra.length ≤ 1000000) (hb : b.length ≤ 1000000000) : g_spec_l04Open N0 key nonce extra b = some (unsF key nonce extra b) := by
  unfold g_spec_l04Open unsF
  by_cases h : b.length < 16
  · rw [if_pos h]; simp (disch := omega) only [dec_t, dec_f, cond_true, gd_true, Bool.and_self, wi_of]
  · rw [if_neg h]
    have es : ((b.length : Int) - 16) = ((b.length - 16 : Nat) : Int) := by omega
    have ht := sTag (key := key2 key) (nonce := nonce) (extra := extra) (b := b.take (b.length - 16)) (by rw [key2_len]; omega) (by omega) he (by simp; omega)
    have hc := sCtr (key := key1 key) (nonce := nonce) (b := b.take (b.length - 16)) (key1_len key) hno (by simp; omega)
    by_cases hq : tagF (key2 key) nonce extra (b.take (b.length - 16)) = b.drop (b.length - 16)
    · rw [if_pos hq]
      simp (disch := omega) only [dec_t, dec_f, cond_false, gd_true, Bool.not_true, Bool.and_self, Int.toNat_natCast, Option.bind_some, wi_of, es, sSealKeys hk, List.drop_zero, List.take_length, ht, hq, beq_self_eq_true, hc]
    · rw [if_neg hq]
      have hq2 : (tagF (key2 key) nonce extra (b.take (b.length - 16)) == b.drop (b.length - 16)) = false := by simpa using hq
      simp (disch := omega) only [dec_t, dec_f, cond_true, cond_false, gd_true, Bool.not_false, Bool.and_self, Int.toNat_natCast, Option.bind_some, wi_of, es, sSealKeys hk, List.drop_zero, List.take_length, ht, hq2]
end Go.Vm
/- Disks: what the program and the reference do, in plain words. -/
set_option linter.unusedVariables false
set_option maxRecDepth 100000
namespace Go.Vm
abbrev DiskT := List (List UInt8) × List (Int × List UInt8) × List (List UInt8)
structure OkD (d : DiskT) : Prop where
  b1 : 1 ≤ d.1.length
  b2 : d.1.length ≤ 64
  b3 : ∀ x ∈ d.1, x.length ≤ 200
  c1 : d.2.1.length ≤ 4096
  c2 : ∀ p ∈ d.2.1, 0 ≤ p.1 ∧ p.1 < (d.1.length : Int) ∧ p.2.length ≤ 200
  s1 : d.2.2 = [] ∨ d.2.2.length = d.1.length
  s2 : ∀ x ∈ d.2.2, x.length ≤ 200
theorem OkD.s3 {d : DiskT} (h : OkD d) : d.2.2.length ≤ 64 := by
  rcases h.s1 with e | e
  · rw [e]; simp
  · rw [e]; exact h.b2
end Go.Vm
/- Disks: an act. -/
set_option linter.unusedVariables false
set_option maxRecDepth 100000
namespace Go.Vm
end Go.Vm
/- Disks: runs, reading, comparing. -/
set_option linter.unusedVariables false
set_option maxRecDepth 100000
namespace Go.Vm
theorem isLongS_eq {N : Nat} (hN : 18446744073709551616 ≤ N) (t : List UInt8) : g_impl_isLong_string N [t] = some (decide (65536 < t.length)) := by
  have key : ∀ n c0 c1 m, g_slices_IndexFunc_Sstring_string__b_impl_isLong_string_1_.l2 N n c0 c1 m = idxL (g_impl_isLong_string_1 N) n c0 c1 m := by
    intro n c0 c1
    induction n with
    | zero => intro m; rfl
    | succ n ih => intro m; simp only [g_slices_IndexFunc_Sstring_string__b_impl_isLong_string_1_.l2, idxL, ih]
  unfold g_impl_isLong_string g_slices_ContainsFunc_Sstring_string__b_impl_isLong_string_1_ g_slices_IndexFunc_Sstring_string__b_impl_isLong_string_1_
  rw [key, contains_eq (p := g_impl_isLong_string_1 N) (q := fun r => decide ((r.length : Int) > 65536)) [t] (fun x _ => rfl) (by simp; omega) (by simp), bind_id]
  simp only [List.any_cons, List.any_nil, Bool.or_false, Option.some.injEq]
  by_cases h : 65536 < t.length
  · rw [dec_t h, dec_t (by omega)]
  · rw [dec_f h, dec_f (by omega)]
end Go.Vm
/- The program's first layer: numbers in bytes, the reader, what is within, what all are. -/
set_option linter.unusedVariables false
set_option maxRecDepth 100000
namespace Go.Vm
/-- A number out of bytes, the higher ones first. -/
def numB (l : List UInt8) : Nat := l.foldl (fun n c => n * 256 + c.toNat) 0
theorem or_byte (n : Nat) (c : UInt8) (h : n < 36028797018963968) : wi (orB 64 ((n : Int) * 2 ^ 8) (c.toNat : Int)) = ((n * 256 + c.toNat : Nat) : Int) := by
  have hc := c.toNat_lt
  rw [show ((n : Int) * 2 ^ 8) = ((n * 256 : Nat) : Int) from rfl]
  unfold orB
  have e2 : (BitVec.ofInt 64 ((n * 256 : Nat) : Int) ||| BitVec.ofInt 64 (c.toNat : Int)).toNat = n * 256 + c.toNat := by
    rw [BitVec.toNat_or]
    simp only [BitVec.ofInt_natCast, BitVec.toNat_ofNat]
    rw [Nat.mod_eq_of_lt (by omega), Nat.mod_eq_of_lt (by omega), Nat.mul_comm n 256]
    exact (Nat.two_pow_add_eq_or_of_lt (i := 8) hc n).symm
  rw [e2, wi_of] <;> omega
theorem number_l3 (N : Nat) : ∀ (n : Nat) (m k : Nat) (b : List UInt8) (f : Bool) (c : List UInt8), c.length ≤ k + n - 1 → 0 < n → k ≤ c.length → c.length ≤ 7 → m < 256 ^ k →
    g_impl_reader_number__pb.l3 N n (c.length : Int) (m : Int) (k : Int) b f c = some ((((c.drop k).foldl (fun n c => n * 256 + c.toNat) m : Nat) : Int), b, f)
  | 0, _, _, _, _, _, _, h, _, _, _ => by omega
  | n + 1, m, k, b, f, c, hn, _, hk, hc, hm => by
    unfold g_impl_reader_number__pb.l3
    by_cases h : k < c.length
    · have hm2 : m < 36028797018963968 := Nat.lt_of_lt_of_le hm (Nat.le_trans (Nat.pow_le_pow_right (by omega) (show k ≤ 6 by omega)) (by decide))
      simp (disch := omega) only [dec_t, cond_true, gd_true, Int.toNat_natCast, get_t, Option.bind_some, bind_id, nc1, wi_u8, wi_of, or_byte m _ hm2]
      rw [number_l3 N n _ (k + 1) b f c (by omega) (by omega) (by omega) hc (by
        have := c[k].toNat_lt
        rw [Nat.pow_succ]; omega), drop_get h]
      rfl
    · simp (disch := omega) only [dec_t, dec_f, cond_false, gd_true, Int.toNat_natCast, bind_id, nc1, wi_u8, wi_of, List.drop_of_length_le, List.foldl_nil]
/-- What is taken, and what is left. -/
def tkR (r : List UInt8 × Bool) (n : Nat) : (List UInt8 × Bool) × List UInt8 := if r.1.length < n then ((r.1, true), []) else ((r.1.drop n, r.2), r.1.take n)
theorem take_eq (N : Nat) (r : List UInt8 × Bool) (n : Nat) : g_impl_reader_take__pb N r (n : Int) = some (tkR r n) := by
  unfold g_impl_reader_take__pb tkR
  by_cases h : r.1.length < n
  · simp (disch := omega) only [dec_t, dec_f, cond_true, gd_true, Bool.and_true, Bool.true_and, Int.toNat_natCast, h, if_true]
  · simp (disch := omega) only [dec_t, dec_f, cond_false, gd_true, Bool.and_self, Int.toNat_natCast, h, if_false, List.take_length, List.drop_zero]
theorem number_eq {N : Nat} (hN : 18446744073709551616 ≤ N) (r : List UInt8 × Bool) (n : Nat) (hn : n ≤ 7) : g_impl_reader_number__pb N r (n : Int) = some ((tkR r n).1, ((numB (tkR r n).2 : Nat) : Int)) := by
  unfold g_impl_reader_number__pb
  rw [take_eq, Option.bind_some]
  have hl : (tkR r n).2.length ≤ 7 := by
    unfold tkR; split
    · simp
    · simp; omega
  rw [show (0 : Int) = ((0 : Nat) : Int) from rfl, number_l3 N N 0 0 _ _ _ (by omega) (by omega) (by omega) hl (by simp)]
  rfl
theorem within_eq (N : Nat) (x a b : Int) : g_impl_within N x a b = some (decide (a ≤ x) && decide (x ≤ b)) := by
  unfold g_impl_within
  by_cases h : a ≤ x <;> simp [h]
theorem l01In_eq (N : Nat) (x a b : Int) : g_spec_l01In N x a b = some (decide (a ≤ x) && decide (x ≤ b)) := by
  unfold g_spec_l01In
  by_cases h : a ≤ x <;> simp [h]
end Go.Vm
/- Banks: what is right, their bytes, what is read. -/
set_option linter.unusedVariables false
set_option maxRecDepth 100000
namespace Go.Vm
end Go.Vm
/- What is read of a bank's bytes, by the program and by the reference. -/
set_option linter.unusedVariables false
set_option maxRecDepth 100000
namespace Go.Vm
theorem l06Number_l3 (N : Nat) : ∀ (n : Nat) (m k : Nat) (c : List UInt8), c.length ≤ k + n - 1 → 0 < n → k ≤ c.length → c.length ≤ 7 → m < 256 ^ k →
    g_spec_l06Number.l3 N n c (m : Int) (k : Int) = some (((c.drop k).foldl (fun n c => n * 256 + c.toNat) m : Nat) : Int)
  | 0, _, _, _, _, h, _, _, _ => by omega
  | n + 1, m, k, c, hn, _, hk, hc, hm => by
    unfold g_spec_l06Number.l3
    by_cases h : k < c.length
    · have hm2 : m < 36028797018963968 := Nat.lt_of_lt_of_le hm (Nat.le_trans (Nat.pow_le_pow_right (by omega) (show k ≤ 6 by omega)) (by decide))
      have hc' := c[k].toNat_lt
      simp (disch := omega) only [dec_t, cond_true, gd_true, Int.toNat_natCast, get_t, Option.bind_some, bind_id, nc1, wi_u8, wi_of]
      rw [show ((m : Int) * 256 + (c[k].toNat : Int)) = ((m * 256 + c[k].toNat : Nat) : Int) by omega, l06Number_l3 N n _ (k + 1) c (by omega) (by omega) (by omega) hc (by rw [Nat.pow_succ]; omega), drop_get h]
      rfl
    · simp (disch := omega) only [dec_t, dec_f, cond_false, gd_true, Int.toNat_natCast, bind_id, nc1, wi_u8, wi_of, List.drop_of_length_le, List.foldl_nil]
theorem l06Number_eq {N : Nat} (hN : 18446744073709551616 ≤ N) (c : List UInt8) (hc : c.length ≤ 7) : g_spec_l06Number N c = some ((numB c : Nat) : Int) := by
  unfold g_spec_l06Number
  have := l06Number_l3 N N 0 0 c (by omega) (by omega) (by omega) hc (by simp)
  simp only [Int.natCast_zero] at this
  rw [this]; rfl
end Go.Vm
/- A bank's bytes; the program reads what the reference reads. -/
set_option linter.unusedVariables false
set_option maxRecDepth 100000
namespace Go.Vm
theorem isLong1_eq {N : Nat} (hN : 18446744073709551616 ≤ N) (t : List UInt8) : g_impl_isLong_Sbyte N [t] = some (decide (65536 < t.length)) := by
  have key : ∀ n c0 c1 m, g_slices_IndexFunc_SSbyte_Sbyte__b_impl_isLong_Sbyte_1_.l2 N n c0 c1 m = idxL (g_impl_isLong_Sbyte_1 N) n c0 c1 m := by
    intro n c0 c1
    induction n with
    | zero => intro m; rfl
    | succ n ih => intro m; simp only [g_slices_IndexFunc_SSbyte_Sbyte__b_impl_isLong_Sbyte_1_.l2, idxL, ih]
  unfold g_impl_isLong_Sbyte g_slices_ContainsFunc_SSbyte_Sbyte__b_impl_isLong_Sbyte_1_ g_slices_IndexFunc_SSbyte_Sbyte__b_impl_isLong_Sbyte_1_
  rw [key, contains_eq (p := g_impl_isLong_Sbyte_1 N) (q := fun r => decide ((r.length : Int) > 65536)) [t] (fun x _ => rfl) (by simp; omega) (by simp), bind_id]
  simp only [List.any_cons, List.any_nil, Bool.or_false, Option.some.injEq]
  by_cases h : 65536 < t.length
  · rw [dec_t h, dec_t (by omega)]
  · rw [dec_f h, dec_f (by omega)]
end Go.Vm
/- The laws' own helpers: what they copy, compare and mark (bytes, banks). -/
set_option linter.unusedVariables false
set_option maxRecDepth 100000
namespace Go.Vm
theorem toByteS_l3 (N : Nat) : ∀ (n : Nat) (c : List UInt8) (k : Nat) (ys : List UInt8), c.length ≤ k + n - 1 → 0 < n → k ≤ c.length → c.length ≤ 9223372036854775000 → ys.length = c.length →
    g_laws_toByteS.l3 N n c (k : Int) ys = some (ys.take k ++ c.drop k)
  | 0, _, _, _, _, h, _, _, _ => by omega
  | n + 1, c, k, ys, hn, _, hk, hc, hy => by
    unfold g_laws_toByteS.l3
    by_cases h : k < c.length
    · simp (disch := omega) only [dec_t, cond_true, gd_true, Int.toNat_natCast, get_t, Option.bind_some, bind_id, nc1, wi_of]
      rw [toByteS_l3 N n c (k + 1) _ (by omega) (by omega) (by omega) hc (by simp [hy]), set_take_drop _ _ _ _ (by omega), drop_get h]
    · simp (disch := omega) only [dec_f, cond_false, List.drop_of_length_le, List.append_nil, List.take_of_length_le]
theorem toByteS_eq {N : Nat} (hN : 18446744073709551616 ≤ N) (c : List UInt8) (hc : c.length ≤ 140737488355328) : g_laws_toByteS N c = some c := by
  unfold g_laws_toByteS
  simp (disch := omega) only [dec_t, gd_true, Bool.and_self, Int.toNat_natCast, bind_id, room_t]
  rw [show (0 : Int) = ((0 : Nat) : Int) from rfl, toByteS_l3 N N c 0 _ (by omega) (by omega) (by omega) (by omega) (by simp)]
  simp
theorem eqByteS_l4 (N n : Nat) (c d : List UInt8) (k : Int) : g_laws_eqByteS.l4 N n c d k = eqL (fun x y => some (decide (x = y))) n c d k := by
  induction n generalizing k with
  | zero => rfl
  | succ n ih =>
    simp only [g_laws_eqByteS.l4, eqL, ih, u8_beq, Option.bind_some]
theorem eqByteS_eq {N : Nat} (hN : 18446744073709551616 ≤ N) (c d : List UInt8) (hc : c.length ≤ 140737488355328) : g_laws_eqByteS N c d = some (decide (c = d)) := by
  unfold g_laws_eqByteS
  simp only [eqByteS_l4]
  exact eqS_eq c d (fun _ _ _ => rfl) (by omega) (by omega)
end Go.Vm
/- Slots: one is read; the law FnExactReadSlot. -/
set_option linter.unusedVariables false
set_option maxRecDepth 100000
namespace Go.Vm
def slotW : List UInt8 := [115, 108, 111, 116]
def nonceF (place version : Int) : List UInt8 := bytesN 4 0 ++ bytesN 4 place ++ bytesN 4 version
theorem nonceF_len (p v : Int) : (nonceF p v).length = 12 := by simp [nonceF, bytesN_length]
theorem iNonce (p v : Int) : g_impl_sealNonce N0 p v = some (nonceF p v) := by
  have h0 := bytesN_length 4 0; have h1 := bytesN_length 4 p; have h2 := bytesN_length 4 v
  unfold g_impl_sealNonce nonceF
  simp (disch := omega) only [dec_t, gd_true, Option.bind_some, List.length_append, iFour]
theorem sNonce (p v : Int) : g_spec_l04Nonce N0 p v = some (nonceF p v) := by
  have h0 := bytesN_length 4 0; have h1 := bytesN_length 4 p; have h2 := bytesN_length 4 v
  unfold g_spec_l04Nonce nonceF
  simp (disch := omega) only [dec_t, gd_true, Option.bind_some, List.length_append, sFourB]
def slotOK (e : Int) (d : List UInt8) : Bool := decide (1 ≤ e) && decide (e ≤ 4294967295) && decide (d.length ≤ 170)
theorem iSlotOK (N : Nat) (e : Int) (d : List UInt8) : g_impl_SlotOK N (e, d) = some (slotOK e d) := by
  unfold g_impl_SlotOK slotOK
  rw [within_eq, Option.bind_some]
  cases (decide (1 ≤ e) && decide (e ≤ 4294967295))
  · rfl
  · simp only [cond_true, Bool.true_and]
    by_cases h : d.length ≤ 170
    · rw [dec_t h, dec_t (by omega)]
    · rw [dec_f h, dec_f (by omega)]
theorem sSlotOK (N : Nat) (e : Int) (d : List UInt8) : g_spec_SlotOK N (e, d) = some (slotOK e d) := by
  unfold g_spec_SlotOK slotOK
  rw [l01In_eq, Option.bind_some]
  cases (decide (1 ≤ e) && decide (e ≤ 4294967295))
  · rfl
  · simp only [cond_true, Bool.true_and]
    by_cases h : d.length ≤ 170
    · rw [dec_t h, dec_t (by omega)]
    · rw [dec_f h, dec_f (by omega)]
/-- What a slot's bytes tell. -/
def rdSlot (key : List UInt8) (place : Int) (b : List UInt8) : Option (Int × List UInt8) :=
  if b.length < 20 then none else
    if (unsF key (nonceF place ((numB (b.take 4) : Nat) : Int)) slotW (b.drop 4)).2 = true then
      if slotOK ((numB (b.take 4) : Nat) : Int) (unsF key (nonceF place ((numB (b.take 4) : Nat) : Int)) slotW (b.drop 4)).1 = true then some (((numB (b.take 4) : Nat) : Int), (unsF key (nonceF place ((numB (b.take 4) : Nat) : Int)) slotW (b.drop 4)).1) else none
    else none
theorem unsF_short {key nonce extra b : List UInt8} (h : b.length < 16) : unsF key nonce extra b = ([], false) := by unfold unsF; rw [if_pos h]
theorem iReadSlot1 {key : List UInt8} {place : Int} {b : List UInt8} (hk : key.length ≤ 1000000) (hb : b.length ≤ 1000000000) : ∃ s ok, g_impl_readSlot N0 key place b = some (s, ok) ∧ ((ok = true ∧ rdSlot key place b = some s) ∨ (ok = false ∧ rdSlot key place b = none)) := by
  unfold g_impl_readSlot rdSlot
  have hn := number_eq hN0 (b, false) 4 (by omega)
  rw [show ((4 : Nat) : Int) = 4 from rfl] at hn
  rw [hn, Option.bind_some]
  have hsl : ([115, 108, 111, 116] : List UInt8) = slotW := rfl
  rw [hsl]
  by_cases h4 : b.length < 4
  · have ht : tkR (b, false) 4 = ((b, true), []) := by unfold tkR; rw [if_pos h4]
    rw [ht]
    dsimp only
    rw [if_pos (show b.length < 20 by omega), iNonce, Option.bind_some, iUnseal hk (nonceF_len _ _) (by simp [slotW]) (by omega), unsF_short (by omega)]
    exact ⟨_, false, rfl, .inr ⟨rfl, rfl⟩⟩
  · have ht : tkR (b, false) 4 = ((b.drop 4, false), b.take 4) := by unfold tkR; rw [if_neg h4]
    rw [ht]
    dsimp only
    rw [iNonce, Option.bind_some, iUnseal hk (nonceF_len _ _) (by simp [slotW]) (by simp; omega), Option.bind_some]
    by_cases h20 : b.length < 20
    · rw [if_pos h20, unsF_short (by simp; omega)]
      exact ⟨_, false, rfl, .inr ⟨rfl, rfl⟩⟩
    · rw [if_neg h20]
      cases hu : (unsF key (nonceF place ((numB (b.take 4) : Nat) : Int)) slotW (b.drop 4)).2
      · exact ⟨_, false, rfl, .inr ⟨rfl, rfl⟩⟩
      · rw [if_pos rfl]
        simp only [cond_true, Bool.not_false, iSlotOK, Option.bind_some]
        cases hs : slotOK ((numB (b.take 4) : Nat) : Int) (unsF key (nonceF place ((numB (b.take 4) : Nat) : Int)) slotW (b.drop 4)).1
        · exact ⟨_, false, rfl, .inr ⟨rfl, rfl⟩⟩
        · exact ⟨_, true, rfl, .inl ⟨rfl, rfl⟩⟩
theorem sReadSlot1 {key : List UInt8} {place : Int} {b : List UInt8} (hk : key.length ≤ 1000000) (hb : b.length ≤ 1000000000) : g_spec_l06Read N0 key place b = some (match rdSlot key place b with | some s => (s, true) | none => ((0, []), false)) := by
  unfold g_spec_l06Read rdSlot
  have hsl : ([115, 108, 111, 116] : List UInt8) = slotW := rfl
  rw [hsl]
  by_cases h20 : b.length < 20
  · rw [if_pos h20]; simp (disch := omega) only [dec_t, cond_true, Bool.and_true, Bool.true_and]
  · rw [if_neg h20]
    have hn := l06Number_eq hN0 (b.take 4) (by simp; omega)
    have hu := sOpen (key := key) (nonce := nonceF place ((numB (b.take 4) : Nat) : Int)) (extra := slotW) (b := b.drop 4) hk (nonceF_len _ _) (by simp [slotW]) (by simp; omega)
    cases hc : (unsF key (nonceF place ((numB (b.take 4) : Nat) : Int)) slotW (b.drop 4)).2
    · simp (disch := omega) only [dec_t, dec_f, cond_true, cond_false, gd_true, Bool.not_false, Bool.and_self, Option.bind_some, List.drop_zero, List.take_length, hn, sNonce, hu, hc, if_false, Bool.false_eq_true]
    · cases hs : slotOK ((numB (b.take 4) : Nat) : Int) (unsF key (nonceF place ((numB (b.take 4) : Nat) : Int)) slotW (b.drop 4)).1
      · simp (disch := omega) only [dec_t, dec_f, cond_true, cond_false, gd_true, Bool.not_true, Bool.not_false, Bool.and_self, Option.bind_some, List.drop_zero, List.take_length, hn, sNonce, hu, hc, if_true, sSlotOK, hs, if_false, Bool.false_eq_true]
      · simp (disch := omega) only [dec_t, dec_f, cond_false, gd_true, Bool.not_true, Bool.and_self, Option.bind_some, List.drop_zero, List.take_length, hn, sNonce, hu, hc, if_true, sSlotOK, hs]
theorem iPlace (N : Nat) (x : Int) : g_impl_isPlace N x = some (decide (0 ≤ x) && decide (x ≤ 1)) := by unfold g_impl_isPlace; rw [within_eq]; rfl
theorem readSlot_both {key : List UInt8} {place : Int} {b : List UInt8} (hb : b.length ≤ 1048576) : ∃ s f, g_impl_ReadSlot N0 key place b = some (s, f) ∧ g_spec_ReadSlot N0 key place b = some (s, f) := by
  unfold g_impl_ReadSlot g_spec_ReadSlot
  rw [isLongS_eq hN0 key, isLong1_eq hN0 b]
  by_cases q1 : key.length > 65536
  · exact ⟨(0, []), 2, by simp (disch := omega) only [dec_t, cond_true, Option.bind_some, bne_ti], by simp (disch := omega) only [dec_t, cond_true, bne_ti]⟩
  by_cases q2 : b.length > 65536
  · exact ⟨(0, []), 2, by simp (disch := omega) only [dec_t, dec_f, cond_true, cond_false, Option.bind_some], by simp (disch := omega) only [dec_t, dec_f, cond_true, cond_false]⟩
  by_cases q3 : key.length = 32
  · by_cases q4 : 0 ≤ place ∧ place ≤ 1
    · obtain ⟨s, ok, e1, h⟩ := iReadSlot1 (key := key) (place := place) (b := b) (by omega) (by omega)
      have e2 := sReadSlot1 (key := key) (place := place) (b := b) (by omega) (by omega)
      rcases h with ⟨rfl, h⟩ | ⟨rfl, h⟩
      · rw [h] at e2
        exact ⟨s, 0, by simp (disch := omega) only [dec_t, dec_f, cond_false, Bool.not_true, Bool.and_self, Option.bind_some, bne_fi, iPlace, e1], by simp (disch := omega) only [dec_t, dec_f, cond_false, Bool.not_true, Bool.and_self, Option.bind_some, bne_fi, l01In_eq, e2]⟩
      · rw [h] at e2
        exact ⟨(0, []), 10, by simp (disch := omega) only [dec_t, dec_f, cond_true, cond_false, Bool.not_true, Bool.not_false, Bool.and_self, Option.bind_some, bne_fi, iPlace, e1], by simp (disch := omega) only [dec_t, dec_f, cond_true, cond_false, Bool.not_true, Bool.not_false, Bool.and_self, Option.bind_some, bne_fi, l01In_eq, e2]⟩
    · by_cases q5 : 0 ≤ place
      · exact ⟨(0, []), 4, by simp (disch := omega) only [dec_t, dec_f, cond_true, cond_false, Bool.not_false, Option.bind_some, bne_fi, iPlace, Bool.and_false], by simp (disch := omega) only [dec_t, dec_f, cond_true, cond_false, Bool.not_false, Option.bind_some, bne_fi, l01In_eq, Bool.and_false]⟩
      · exact ⟨(0, []), 4, by simp (disch := omega) only [dec_t, dec_f, cond_true, cond_false, Bool.not_false, Bool.and_true, Option.bind_some, bne_fi, iPlace], by simp (disch := omega) only [dec_t, dec_f, cond_true, cond_false, Bool.not_false, Bool.and_true, Option.bind_some, bne_fi, l01In_eq]⟩
  · exact ⟨(0, []), 1, by simp (disch := omega) only [dec_f, cond_true, cond_false, Option.bind_some, bne_ti], by simp (disch := omega) only [dec_f, cond_true, cond_false, bne_ti]⟩
theorem FnExactReadSlot_true (key : List UInt8) (place : Int) (b : List UInt8) : g_laws_FnExactReadSlot N0 key place b = some true := by
  unfold g_laws_FnExactReadSlot
  by_cases q1 : key.length > 1048576
  · simp (disch := omega) only [dec_t, cond_true]
  by_cases q2 : b.length > 1048576
  · simp (disch := omega) only [dec_t, dec_f, cond_true, cond_false]
  have t := toByteS_eq hN0 b (by omega)
  have e := eqByteS_eq hN0 b b (by omega)
  obtain ⟨s, f, e1, e2⟩ := readSlot_both (key := key) (place := place) (b := b) (by omega)
  have e3 : g_laws_eqSlot N0 s s = some true := by unfold g_laws_eqSlot; simp only [bne_self_eq_false, beq_self_eq_true, Bool.not_true, cond_false]
  simp (disch := omega) only [dec_f, decide_true, cond_false, Bool.not_true, Option.bind_some, t, e, e1, e2, e3, bne_self_eq_false]
theorem law_FnExactReadSlot (key : List UInt8) (place : Int) (b : List UInt8) {p q r : Prop} (_ : p) (_ : q) (_ : r) : ∃ N, g_laws_FnExactReadSlot N key place b = some true := ⟨N0, FnExactReadSlot_true key place b⟩
end Go.Vm

/- A part of the proof: an abstract machine, mirrors and their laws, one text behind the other. -/
import Derived.Test.YtbmjjagpmghjeaaVG4
/- HMAC. -/
set_option linter.unusedVariables false
set_option maxRecDepth 100000
namespace Go.Vm
def mskAt (m : UInt8) (c : UInt8) : UInt8 := wb (xorB 8 (c.toNat : Int) (m.toNat : Int))
/-- A key of 64 bytes with a mask on. -/
def mskd (m : UInt8) (k : List UInt8) : List UInt8 := (k ++ List.replicate (64 - k.length) 0).map (mskAt m)
theorem mskd_length (m : UInt8) {k : List UInt8} (h : k.length ≤ 64) : (mskd m k).length = 64 := by simp [mskd]; omega
theorem set_map {α : Type} (f : α → α) {l : List α} {i : Nat} (h : i < l.length) : ((l.take i).map f ++ l.drop i).set i (f l[i]) = (l.take (i + 1)).map f ++ l.drop (i + 1) := by
  have e : ((l.take i).map f).length = i := by rw [List.length_map, List.length_take]; omega
  have := mid_set ((l.take i).map f) l[i] (f l[i]) (l.drop (i + 1))
  rw [e] at this
  rw [drop_get h, this, List.take_add_one, get_t h, List.map_append, List.append_assoc]
  rfl
theorem get_map {α : Type} (f : α → α) {l : List α} {i : Nat} (h : i < l.length) : ((l.take i).map f ++ l.drop i)[i]? = some l[i] := by
  rw [List.getElem?_append_right (by simp; omega), drop_get h]
  simp [Nat.min_eq_left (Nat.le_of_lt h)]
theorem masked_l4 (N : Nat) (m : UInt8) (v : List UInt8) (hv : v.length ≤ 1000000) : ∀ (n i : Nat), v.length ≤ i + n - 1 → 0 < n → i ≤ v.length →
    g_impl_masked.l4 N n m (v.length : Int) (i : Int) ((v.take i).map (mskAt m) ++ v.drop i) = some (v.map (mskAt m))
  | 0, _, _, h, _ => by omega
  | n + 1, i, hn, _, hi => by
    unfold g_impl_masked.l4
    by_cases h : i < v.length
    · have hl : ((v.take i).map (mskAt m) ++ v.drop i).length = v.length := by simp; omega
      have hg := get_map (mskAt m) h
      have hr := masked_l4 N m v hv n (i + 1) (by omega) (by omega) (by omega)
      have hs := set_map (mskAt m) h
      simp only [mskAt] at hs hg hr hl ⊢
      simp (disch := omega) only [dec_t, cond_true, gd_true, Int.toNat_natCast, Option.bind_some, bind_id, nc1, wi_of, List.length_append, List.length_take, List.length_drop, List.length_map, hg, hs]
      exact hr
    · simp (disch := omega) only [dec_t, dec_f, cond_false, gd_true, Int.toNat_natCast, bind_id, nc1, wi_of, List.length_map, List.drop_of_length_le, List.append_nil, List.take_of_length_le]
theorem iMasked {N : Nat} (hN : 18446744073709551616 ≤ N) (k : List UInt8) (m : UInt8) (hk : k.length ≤ 64) : g_impl_masked N k m = some (mskd m k) := by
  have e : spliceL (List.replicate 64 (0 : UInt8)) k 0 (min k.length (List.replicate 64 (0 : Nat)).length) = k ++ List.replicate (64 - k.length) 0 := by
    unfold spliceL
    rw [List.length_replicate, Nat.min_eq_left hk, Nat.zero_add, List.take_zero, List.take_length, List.nil_append, List.drop_replicate]
  have hl : (k ++ List.replicate (64 - k.length) (0 : UInt8)).length = 64 := by simp; omega
  have := masked_l4 N m (k ++ List.replicate (64 - k.length) 0) (by omega) N 0 (by omega) (by omega) (by omega)
  simp only [List.take_zero, List.map_nil, List.nil_append, List.drop_zero, Int.natCast_zero] at this
  unfold g_impl_masked
  dsimp only
  rw [e, this]
  rfl
theorem sHmac_l6 (N : Nat) (c0 k : List UInt8) (hk : k.length ≤ 64) : ∀ (n i : Nat), 64 ≤ i + n - 1 → 0 < n → i ≤ 64 →
    g_spec_l03Hmac__ob.l6 N n c0 (i : Int) k ((mskd 54 k).take i ++ List.replicate (64 - i) 0) ((mskd 92 k).take i ++ List.replicate (64 - i) 0) = some (mskd 54 k, mskd 92 k)
  | 0, _, _, h, _ => by omega
  | n + 1, i, hn, _, hi => by
    unfold g_spec_l03Hmac__ob.l6
    have l1 := mskd_length 54 hk
    have l2 := mskd_length 92 hk
    by_cases h : i < 64
    · have hr := sHmac_l6 N c0 k hk n (i + 1) (by omega) (by omega) (by omega)
      have hl : ∀ m, ((mskd m k).take i ++ List.replicate (64 - i) (0 : UInt8)).length = 64 := fun m => by simp [mskd_length m hk]; omega
      have h1 := hl 54
      have h2 := hl 92
      have hs : ∀ m v, (mskd m k)[i]? = some v → ((mskd m k).take i ++ List.replicate (64 - i) (0 : UInt8)).set i v = (mskd m k).take (i + 1) ++ List.replicate (64 - (i + 1)) 0 := fun m v hv => by
        have := mskd_length m hk
        have e : ((mskd m k).take i).length = i := by rw [List.length_take]; omega
        have q := mid_set ((mskd m k).take i) 0 v (List.replicate (64 - (i + 1)) 0)
        rw [e] at q
        rw [show 64 - i = (64 - (i + 1)) + 1 by omega, List.replicate_succ, q, List.take_add_one, hv, List.append_assoc]
        rfl
      by_cases hik : i < k.length
      · have hm : ∀ m, (mskd m k)[i]? = some (mskAt m k[i]) := fun m => by
          unfold mskd
          rw [List.getElem?_map, List.getElem?_append_left hik, get_t hik]; rfl
        have hs1 := hs 54 _ (hm 54)
        have hs2 := hs 92 _ (hm 92)
        simp only [mskAt] at hs1 hs2
        rw [show ((54 : UInt8).toNat : Int) = 54 from rfl] at hs1
        rw [show ((92 : UInt8).toNat : Int) = 92 from rfl] at hs2
        simp (disch := omega) only [dec_t, cond_true, gd_true, Int.toNat_natCast, get_t, Option.bind_some, bind_id, nc1, wi_of, List.length_append, List.length_replicate, List.length_take, hs1, hs2]
        exact hr
      · have hm : ∀ m, (mskd m k)[i]? = some (mskAt m 0) := fun m => by
          unfold mskd
          rw [List.getElem?_map, List.getElem?_append_right (by omega), List.getElem?_replicate, if_pos (by omega)]; rfl
        have hs1 := hs 54 _ (hm 54)
        have hs2 := hs 92 _ (hm 92)
        rw [show mskAt 54 0 = 54 from by decide +kernel] at hs1
        rw [show mskAt 92 0 = 92 from by decide +kernel] at hs2
        simp (disch := omega) only [dec_t, dec_f, cond_true, cond_false, gd_true, Int.toNat_natCast, get_t, Option.bind_some, bind_id, nc1, wi_of, List.length_append, List.length_replicate, List.length_take, hs1, hs2]
        exact hr
    · obtain rfl : i = 64 := by omega
      simp (disch := omega) only [dec_t, dec_f, cond_false, gd_true, Int.toNat_natCast, bind_id, nc1, wi_of, Nat.sub_self, List.replicate_zero, List.append_nil, List.take_of_length_le]
def hkey (k : List UInt8) : List UInt8 := if k.length > 64 then sha k else k
theorem hkey_length (k : List UInt8) : (hkey k).length ≤ 64 := by
  unfold hkey; split
  · rw [sha_length]; omega
  · omega
def hmac (k b : List UInt8) : List UInt8 := sha (mskd 92 (hkey k) ++ sha (mskd 54 (hkey k) ++ b))
theorem hmac_length (k b : List UInt8) : (hmac k b).length = 32 := sha_length _
theorem iHmac {N : Nat} (hN : 18446744073709551616 ≤ N) (k b : List UInt8) (hk : k.length ≤ 70368744177000) (hb : b.length ≤ 70368744177000) : g_impl_hmac N k b = some (hmac k b) := by
  unfold g_impl_hmac
  have l1 := mskd_length 54 (hkey_length k)
  have l2 := mskd_length 92 (hkey_length k)
  have e1 := iMasked hN (hkey k) 92 (hkey_length k)
  have e2 := iMasked hN (hkey k) 54 (hkey_length k)
  have e3 := iHash hN (mskd 54 (hkey k) ++ b) (by rw [List.length_append]; omega)
  have e4 := iHash hN (mskd 92 (hkey k) ++ sha (mskd 54 (hkey k) ++ b)) (by rw [List.length_append, sha_length]; omega)
  have ls := sha_length (mskd 54 (hkey k) ++ b)
  by_cases h : k.length > 64
  · have ek : hkey k = sha k := if_pos h
    have e0 := iHash hN k (by omega)
    rw [ek] at e1 e2 e3 e4 l1 l2 ls
    simp (disch := omega) only [dec_t, cond_true, gd_true, Option.bind_some, bind_id, e0, e1, e2, e3, e4, hmac, ek]
  · have ek : hkey k = k := if_neg h
    rw [ek] at e1 e2 e3 e4 l1 l2 ls
    simp (disch := omega) only [dec_t, dec_f, cond_false, gd_true, Option.bind_some, bind_id, e1, e2, e3, e4, hmac, ek]
theorem sHmac {N : Nat} (hN : 18446744073709551616 ≤ N) (k b : List UInt8) (hk : k.length ≤ 70368744177000) (hb : b.length ≤ 70368744177000) : g_spec_l03Hmac__ob N k b = some (hmac k b) := by
  unfold g_spec_l03Hmac__ob
  have l1 := mskd_length 54 (hkey_length k)
  have l2 := mskd_length 92 (hkey_length k)
  have e1 := sHmac_l6 N b (hkey k) (hkey_length k) N 0 (by omega) (by omega) (by omega)
  have e3 := sHash hN (mskd 54 (hkey k) ++ b) (by rw [List.length_append]; omega)
  have e4 := sHash hN (mskd 92 (hkey k) ++ sha (mskd 54 (hkey k) ++ b)) (by rw [List.length_append, sha_length]; omega)
  have ls := sha_length (mskd 54 (hkey k) ++ b)
  simp only [List.take_zero, List.nil_append, Int.natCast_zero, Nat.sub_zero] at e1
  by_cases h : k.length > 64
  · have ek : hkey k = sha k := if_pos h
    have e0 := sHash hN k (by omega)
    rw [ek] at e1 e3 e4 l1 l2 ls
    simp (disch := omega) only [dec_t, cond_true, gd_true, Option.bind_some, bind_id, room_t, e0, e1, e3, e4, hmac, ek]
  · have ek : hkey k = k := if_neg h
    rw [ek] at e1 e3 e4 l1 l2 ls
    simp (disch := omega) only [dec_f, cond_false, gd_true, Option.bind_some, bind_id, room_t, e1, e3, e4, hmac, ek]
end Go.Vm
/- Links: what both programs' functions on links do. -/
set_option linter.unusedVariables false
set_option maxRecDepth 100000
namespace Go.Vm
abbrev LinkT := List UInt8 × Int × Int × List Bool
abbrev PktT := Int × List UInt8 × List UInt8
theorem iWithin (N : Nat) (a b c : Int) : g_impl_within N a b c = some (decide (b ≤ a) && decide (a ≤ c)) := by
  unfold g_impl_within
  by_cases h : b ≤ a
  · simp only [dec_t h, cond_true, Bool.true_and]
  · simp only [dec_f h, cond_false, Bool.false_and]
theorem sIn (N : Nat) (a b c : Int) : g_spec_l01In N a b c = some (decide (b ≤ a) && decide (a ≤ c)) := by
  unfold g_spec_l01In
  by_cases h : b ≤ a
  · simp only [dec_t h, ge_iff_le, cond_true, Bool.true_and]
  · simp only [dec_f h, ge_iff_le, cond_false, Bool.false_and]
theorem sFour (N : Nat) (x : Int) : g_spec_l02Four N x = some (bytesN 4 x) := by rw [bytesN4]; rfl
/-- A packet's tag. -/
def lkTag (key : List UInt8) (seq : Int) (body : List UInt8) : List UInt8 := (hmac key (bytesN 4 seq ++ body)).take 16
theorem iTag {N : Nat} (hN : 18446744073709551616 ≤ N) (key : List UInt8) (seq : Int) (body : List UInt8) (hk : key.length ≤ 1000000000) (hb : body.length ≤ 1000000000) : g_impl_packetTag N key seq body = some (lkTag key seq body) := by
  unfold g_impl_packetTag
  have e1 := bytesOf_eq hN seq 4 (by omega)
  rw [show ((4 : Nat) : Int) = 4 from rfl] at e1
  have l1 := bytesN_length 4 seq
  have e2 := iHmac hN key (bytesN 4 seq ++ body) (by omega) (by rw [List.length_append]; omega)
  have l2 := hmac_length key (bytesN 4 seq ++ body)
  simp (disch := omega) only [dec_t, gd_true, Bool.true_and, Option.bind_some, e1, e2, List.drop_zero, lkTag]
theorem sTag {N : Nat} (hN : 18446744073709551616 ≤ N) (key : List UInt8) (seq : Int) (body : List UInt8) (hk : key.length ≤ 1000000000) (hb : body.length ≤ 1000000000) : g_spec_l07Tag N key seq body = some (lkTag key seq body) := by
  unfold g_spec_l07Tag
  have l1 := bytesN_length 4 seq
  have e2 := sHmac hN key (bytesN 4 seq ++ body) (by omega) (by rw [List.length_append]; omega)
  have l2 := hmac_length key (bytesN 4 seq ++ body)
  simp (disch := omega) only [dec_t, gd_true, Bool.true_and, Option.bind_some, room_t, sFour, e2, List.drop_zero, lkTag]
/-- No flag stands at a place that is not behind top. -/
def winR (top : Int) : Nat → List Bool → Bool
  | _, [] => true
  | k, x :: xs => bif x && decide (top ≤ (k : Int)) then false else winR top (k + 1) xs
theorem linkOK_l4 (N : Nat) (top : Int) (c0 : List Bool) (m3 : List UInt8) (m4 : Int) (m6 : List Bool) (hl : c0.length ≤ 1000000) (ht : 0 ≤ top ∧ top ≤ 1000000) : ∀ (n k : Nat), c0.length ≤ k + n - 1 → 0 < n → k ≤ c0.length →
    g_impl_LinkOK.l4 N n c0 (c0.length : Int) (k : Int) m3 m4 top m6 = some (bif winR top k (c0.drop k) then .inr () else .inl false)
  | 0, _, _, h, _ => by omega
  | n + 1, k, hn, _, hk => by
    unfold g_impl_LinkOK.l4
    by_cases h : k < c0.length
    · rw [drop_get h, winR]
      cases hv : c0[k]
      · simp (disch := omega) only [dec_t, cond_true, cond_false, gd_true, Int.toNat_natCast, get_t, Option.bind_some, bind_id, nc1, wi_of, hv, linkOK_l4 N top c0 m3 m4 m6 hl ht n (k + 1), Bool.false_and]
      · by_cases h2 : top ≤ (k : Int)
        · simp (disch := omega) only [dec_t, cond_true, cond_false, gd_true, Bool.and_self, Int.toNat_natCast, get_t, Option.bind_some, bind_id, nc1, wi_of, hv]
        · simp (disch := omega) only [dec_t, dec_f, cond_true, cond_false, gd_true, Bool.true_and, Int.toNat_natCast, get_t, Option.bind_some, bind_id, nc1, wi_of, hv, linkOK_l4 N top c0 m3 m4 m6 hl ht n (k + 1)]
    · simp (disch := omega) only [dec_t, dec_f, cond_true, cond_false, gd_true, Int.toNat_natCast, bind_id, nc1, wi_of, List.drop_of_length_le, winR]
theorem sLinkOK_l4 (N : Nat) (top : Int) (m1 : List UInt8) (m2 : Int) (c0 : List Bool) (hl : c0.length = 32) : ∀ (n k : Nat), c0.length ≤ k + n - 1 → 0 < n → k ≤ c0.length →
    g_spec_LinkOK.l4 N n (k : Int) m1 m2 top c0 = some (bif winR top k (c0.drop k) then .inr () else .inl false)
  | 0, _, h, _, _ => by omega
  | n + 1, k, hn, _, hk => by
    unfold g_spec_LinkOK.l4
    by_cases h : k < c0.length
    · rw [drop_get h, winR]
      cases hv : c0[k]
      · simp (disch := omega) only [dec_t, cond_true, cond_false, gd_true, Int.toNat_natCast, get_t, Option.bind_some, bind_id, nc1, wi_of, hv, sLinkOK_l4 N top m1 m2 c0 hl n (k + 1), Bool.false_and]
      · by_cases h2 : top ≤ (k : Int)
        · simp (disch := omega) only [dec_t, cond_true, cond_false, gd_true, Bool.and_self, Int.toNat_natCast, get_t, Option.bind_some, bind_id, nc1, wi_of, hv, ge_iff_le]
        · simp (disch := omega) only [dec_t, dec_f, cond_true, cond_false, gd_true, Bool.true_and, Int.toNat_natCast, get_t, Option.bind_some, bind_id, nc1, wi_of, hv, sLinkOK_l4 N top m1 m2 c0 hl n (k + 1), ge_iff_le]
    · simp (disch := omega) only [dec_t, dec_f, cond_true, cond_false, gd_true, Int.toNat_natCast, bind_id, nc1, wi_of, List.drop_of_length_le, winR]
/-- Whether a link is right. -/
def linkB (l : LinkT) : Bool := decide (l.1.length = 32) && (decide (0 ≤ l.2.1) && decide (l.2.1 ≤ 1000000)) && (decide (0 ≤ l.2.2.1) && decide (l.2.2.1 ≤ 1000000)) && decide (l.2.2.2.length = 32) && (l.2.2.2[0]?.getD false == decide (0 < l.2.2.1)) && winR l.2.2.1 0 l.2.2.2
theorem iLinkOK {N : Nat} (hN : 18446744073709551616 ≤ N) (l : LinkT) (h1 : l.1.length ≤ 1000000000) (h2 : l.2.2.2.length ≤ 1000000000) : g_impl_LinkOK N l = some (linkB l) := by
  obtain ⟨key, sent, top, win⟩ := l
  dsimp only at h1 h2
  unfold g_impl_LinkOK linkB
  simp only [iWithin, Option.bind_some]
  by_cases q1 : key.length = 32
  · by_cases q2 : 0 ≤ sent ∧ sent ≤ 1000000
    · by_cases q3 : 0 ≤ top ∧ top ≤ 1000000
      · by_cases q4 : win.length = 32
        · have e := linkOK_l4 N top win key sent win (by omega) q3 N 0 (by omega) (by omega) (by omega)
          rw [Int.natCast_zero, List.drop_zero] at e
          have ed : (top != 0) = decide (0 < top) := by
            rw [bne_dec]
            by_cases h : top = 0
            · rw [dec_t h, dec_f (by omega)]; rfl
            · rw [dec_f h, dec_t (by omega)]; rfl
          have eg : win[0]?.getD false = win[0] := by rw [get_t (show 0 < win.length by omega)]; rfl
          rw [eg]
          simp (disch := omega) only [dec_t, decide_true, cond_false, Bool.not_true, Bool.true_and, Bool.and_self, get_t, Option.bind_some, bne_fi, q1, q2.1, q2.2, q3.1, q3.2, e, ed]
          cases (win[0] == decide (0 < top))
          · simp only [Bool.not_false, cond_true, Bool.false_and]
          · simp only [Bool.not_true, cond_false, Bool.true_and]
            cases winR top 0 win <;> rfl
        · simp (disch := omega) only [dec_f, decide_true, cond_true, cond_false, Bool.not_true, Bool.and_self, bne_ti, bne_fi, q1, q2.1, q2.2, q3.1, q3.2, Bool.and_false, Bool.false_and]
      · have : (decide (0 ≤ top) && decide (top ≤ 1000000)) = false := by rw [← Bool.decide_and, dec_f q3]
        simp (disch := omega) only [decide_true, cond_true, cond_false, Bool.not_true, Bool.not_false, Bool.and_self, bne_ti, bne_fi, q1, q2.1, q2.2, this, Bool.and_false, Bool.false_and]
    · have : (decide (0 ≤ sent) && decide (sent ≤ 1000000)) = false := by rw [← Bool.decide_and, dec_f q2]
      simp (disch := omega) only [decide_true, cond_true, cond_false, Bool.not_false, bne_fi, q1, this, Bool.and_false, Bool.false_and]
  · simp (disch := omega) only [dec_f, cond_true, bne_ti, Bool.false_and]
theorem sLinkOK {N : Nat} (hN : 18446744073709551616 ≤ N) (l : LinkT) (h1 : l.1.length ≤ 1000000000) (h2 : l.2.2.2.length ≤ 1000000000) : g_spec_LinkOK N l = some (linkB l) := by
  obtain ⟨key, sent, top, win⟩ := l
  dsimp only at h1 h2
  unfold g_spec_LinkOK linkB
  simp only [sIn, Option.bind_some]
  by_cases q1 : key.length = 32
  · by_cases q2 : 0 ≤ sent ∧ sent ≤ 1000000
    · by_cases q3 : 0 ≤ top ∧ top ≤ 1000000
      · by_cases q4 : win.length = 32
        · have e := sLinkOK_l4 N top key sent win q4 N 1 (by omega) (by omega) (by omega)
          rw [show ((1 : Nat) : Int) = 1 from rfl] at e
          have eg : win[0]?.getD false = win[0] := by rw [get_t (show 0 < win.length by omega)]; rfl
          have ew : (win[0] == decide (0 < top)) = true → winR top 0 win = winR top 1 (win.drop 1) := fun h => by
            have h3 := drop_get (xs := win) (i := 0) (by omega)
            rw [List.drop_zero] at h3
            rw [h3, winR]
            have h6 : (win[0] && decide (top ≤ ((0 : Nat) : Int))) = false := by
              cases h4 : win[0]
              · rfl
              · rw [h4] at h
                by_cases h5 : 0 < top
                · rw [dec_f (by omega)]; rfl
                · rw [dec_f h5] at h; cases h
            rw [h6, cond_false, show (win[0] :: win.drop (0 + 1)).drop 1 = win.drop (0 + 1) from rfl]
          rw [eg]
          simp (disch := omega) only [dec_t, decide_true, cond_false, Bool.not_true, Bool.true_and, Bool.and_self, get_t, Option.bind_some, bne_fi, q1, q2.1, q2.2, q3.1, q3.2, e, gt_iff_lt]
          cases hb : (win[0] == decide (0 < top))
          · simp only [Bool.not_false, cond_true, Bool.false_and]
          · rw [ew hb]
            simp only [Bool.not_true, cond_false, Bool.true_and]
            cases winR top 1 (win.drop 1) <;> rfl
        · simp (disch := omega) only [dec_f, decide_true, cond_true, cond_false, Bool.not_true, Bool.and_self, bne_ti, bne_fi, q1, q2.1, q2.2, q3.1, q3.2, Bool.and_false, Bool.false_and]
      · have : (decide (0 ≤ top) && decide (top ≤ 1000000)) = false := by rw [← Bool.decide_and, dec_f q3]
        simp (disch := omega) only [decide_true, cond_true, cond_false, Bool.not_true, Bool.not_false, Bool.and_self, bne_fi, q1, q2.1, q2.2, this, Bool.and_false, Bool.false_and]
    · have : (decide (0 ≤ sent) && decide (sent ≤ 1000000)) = false := by rw [← Bool.decide_and, dec_f q2]
      simp (disch := omega) only [decide_true, cond_true, cond_false, Bool.not_false, bne_fi, q1, this, Bool.and_false, Bool.false_and]
  · simp (disch := omega) only [dec_f, cond_true, bne_ti, Bool.false_and]
theorem cloneB (N : Nat) (xs : List Bool) (h : xs.length ≤ 1000000000) : g_slices_Clone_Sbool_bool N xs = some xs := by
  unfold g_slices_Clone_Sbool_bool
  cases xs with
  | nil => rfl
  | cons x xs =>
    unfold g_slices_Clone_Sbool_bool_v
    simp only [List.isEmpty_cons, cond_false]
    rw [room_t (by omega)]; simp only [gd_true, List.nil_append]
theorem iOwn (N : Nat) (l : LinkT) (h : l.2.2.2.length ≤ 1000000000) : g_impl_Link_own N l = some l := by
  unfold g_impl_Link_own; simp only [cloneB N _ h, Option.bind_some]
theorem sOwn (N : Nat) (l : LinkT) (h : l.2.2.2.length ≤ 1000000000) : g_spec_l07Own N l = some l := by
  unfold g_spec_l07Own; rw [room_t (by omega)]; simp only [gd_true, List.nil_append]
/-! ### Sending -/
theorem long1 {N : Nat} (hN : 18446744073709551616 ≤ N) (a : List UInt8) : g_impl_isLong_string N [a] = some (decide (65536 < a.length)) := by
  have key : ∀ n c0 c1 m, g_slices_IndexFunc_Sstring_string__b_impl_isLong_string_1_.l2 N n c0 c1 m = idxL (g_impl_isLong_string_1 N) n c0 c1 m := by
    intro n c0 c1
    induction n with
    | zero => intro m; rfl
    | succ n ih => intro m; simp only [g_slices_IndexFunc_Sstring_string__b_impl_isLong_string_1_.l2, idxL, ih]
  have hp : ∀ x ∈ [a], g_impl_isLong_string_1 N x = some ((fun x : List UInt8 => decide (65536 < x.length)) x) := fun x _ => by
    unfold g_impl_isLong_string_1
    dsimp only
    by_cases h : 65536 < x.length
    · rw [dec_t h, dec_t (by omega)]
    · rw [dec_f h, dec_f (by omega)]
  unfold g_impl_isLong_string g_slices_ContainsFunc_Sstring_string__b_impl_isLong_string_1_ g_slices_IndexFunc_Sstring_string__b_impl_isLong_string_1_
  rw [key, contains_eq (p := g_impl_isLong_string_1 N) (q := fun x => decide (65536 < x.length)) [a] hp (by simp; omega) (by simp)]
  simp only [Option.bind_some, List.any_cons, List.any_nil, Bool.or_false]
def lkSend (l : LinkT) (body : List UInt8) : LinkT × PktT × Int :=
  if 65536 < body.length then (([], 0, 0, []), (0, [], []), 2)
  else if linkB l = true then
    if l.2.1 = 1000000 then (l, (0, [], []), 19) else ((l.1, l.2.1 + 1, l.2.2), (l.2.1 + 1, body, lkTag l.1 (l.2.1 + 1) body), 0)
  else (([], 0, 0, []), (0, [], []), 1)
theorem linkB_range {l : LinkT} (h : linkB l = true) : l.1.length = 32 ∧ 0 ≤ l.2.1 ∧ l.2.1 ≤ 1000000 ∧ 0 ≤ l.2.2.1 ∧ l.2.2.1 ≤ 1000000 ∧ l.2.2.2.length = 32 := by
  unfold linkB at h
  simp only [Bool.and_eq_true, decide_eq_true_eq] at h
  omega
theorem iSend {N : Nat} (hN : 18446744073709551616 ≤ N) (l : LinkT) (body : List UInt8) (h1 : l.1.length ≤ 1000000000) (h2 : l.2.2.2.length ≤ 1000000000) (h3 : body.length ≤ 1000000000) : g_impl_LinkSend N l body = some (lkSend l body) := by
  unfold g_impl_LinkSend lkSend
  simp only [long1 hN, iLinkOK hN l h1 h2, iOwn N l h2, Option.bind_some]
  by_cases q1 : 65536 < body.length
  · simp only [dec_t q1, cond_true, if_pos q1]
  · cases q2 : linkB l
    · simp only [dec_f q1, cond_false, if_neg q1, Bool.not_false, cond_true, Bool.false_eq_true, if_false]
    · obtain ⟨r1, r2, r3, r4, r5, r6⟩ := linkB_range q2
      by_cases q3 : l.2.1 = 1000000
      · simp only [dec_f q1, cond_false, if_neg q1, Bool.not_true, beq_ti q3, cond_true, if_true, if_pos q3]
      · simp (disch := omega) only [dec_f, cond_false, Bool.not_true, Option.bind_some, wi_of, beq_fi, if_neg q1, if_neg q3, iTag hN, if_true]
end Go.Vm
/- The laws' own helpers: marks, sizes. -/
set_option linter.unusedVariables false
set_option maxRecDepth 100000
namespace Go.Vm
end Go.Vm
/- The laws' own helpers, printed by a program of ours. -/
set_option linter.unusedVariables false
set_option maxRecDepth 100000
namespace Go.Vm
abbrev bdBoolS (n : Nat) (x : List Bool) : Prop := x.length ≤ n
theorem bdBoolS_mono {n m : Nat} (hm : n ≤ m) {x : List Bool} (h : bdBoolS n x) : bdBoolS m x := Nat.le_trans h hm
abbrev bdLink (n : Nat) (x : List UInt8 × Int × Int × List Bool) : Prop := (x.1).length ≤ n ∧ bdBoolS n x.2.2.2
theorem bdLink_mono {n m : Nat} (hm : n ≤ m) {x : List UInt8 × Int × Int × List Bool} (h : bdLink n x) : bdLink m x := ⟨Nat.le_trans h.1 hm, bdBoolS_mono hm h.2⟩
theorem toBoolS_l (N n : Nat) (c ys : List Bool) (k : Int) : g_laws_toBoolS.l3 N n c k ys = toL2 some n c k ys := by
  induction n generalizing k ys with
  | zero => rfl
  | succ n ih => simp only [g_laws_toBoolS.l3, toL2, ih, Option.bind_some]
theorem toBoolS_eq {N : Nat} (hN : 18446744073709551616 ≤ N) (c : List Bool) (h : bdBoolS 1000000000 c) : g_laws_toBoolS N c = some c := by
  have hl : c.length ≤ 1000000000 := h
  unfold g_laws_toBoolS
  simp (disch := omega) only [toBoolS_l, dec_t, gd_true, Bool.and_self, Int.toNat_natCast, bind_id, room_t]
  rw [show (0 : Int) = ((0 : Nat) : Int) from rfl, toL2_eq (p := some) (f := id) N c 0 _ (fun _ _ => rfl) (by omega) (by omega) (by omega) (by omega) (by simp)]
  simp
theorem toLink_eq {N : Nat} (hN : 18446744073709551616 ≤ N) (c : List UInt8 × Int × Int × List Bool) (h : bdLink 1000000000 c) : g_laws_toLink N c = some c := by
  unfold g_laws_toLink
  simp only [toBoolS_eq hN c.2.2.2 h.2, Option.bind_some]
theorem szBoolS_eq {N : Nat} (hN : 18446744073709551616 ≤ N) (c : List Bool) (left : Int) (h0 : 0 ≤ left) (hl : left ≤ 1048576) (h : bdBoolS 9223372036854775807 c) : ∃ r : Int, g_laws_szBoolS N c left = some r ∧ (0 ≤ r → r ≤ left ∧ bdBoolS 1048576 c) := by
  have hh : c.length ≤ 9223372036854775807 := h
  unfold g_laws_szBoolS
  by_cases q : left - (c.length : Int) < 0
  · exact ⟨-1, by simp (disch := omega) only [dec_t, cond_true, wi_of], fun h => absurd h (by omega)⟩
  · exact ⟨left - (c.length : Int), by simp (disch := omega) only [dec_f, cond_false, wi_of], fun _ => ⟨by omega, by show c.length ≤ 1048576; omega⟩⟩
theorem szLink_eq {N : Nat} (hN : 18446744073709551616 ≤ N) (c : List UInt8 × Int × Int × List Bool) (left : Int) (h0 : 0 ≤ left) (hl : left ≤ 1048576) (h : bdLink 9223372036854775807 c) : ∃ r : Int, g_laws_szLink N c left = some r ∧ (0 ≤ r → r ≤ left ∧ bdLink 1048576 c) := by
  unfold g_laws_szLink
  have b0 : c.1.length ≤ 9223372036854775807 := h.1
  by_cases q0 : left - (c.1.length : Int) < 0
  · exact ⟨-1, by simp (disch := omega) only [dec_t, cond_true, wi_of], fun h => absurd h (by omega)⟩
  obtain ⟨r1, e1, k1⟩ := szBoolS_eq hN c.2.2.2 (left - (c.1.length : Int)) (by omega) (by omega) h.2
  by_cases q1 : r1 < 0
  · exact ⟨-1, by simp (disch := omega) only [dec_t, dec_f, cond_true, cond_false, Option.bind_some, wi_of, e1], fun h => absurd h (by omega)⟩
  obtain ⟨ka1, kb1⟩ := k1 (by omega)
  exact ⟨r1, by simp (disch := omega) only [dec_f, cond_false, Option.bind_some, wi_of, e1], fun _ => ⟨by omega, ⟨by omega, kb1⟩⟩⟩
theorem eqBoolS_l (N n : Nat) (c d : List Bool) (k : Int) : g_laws_eqBoolS.l4 N n c d k = eqL (fun x y => some (decide (x = y))) n c d k := by
  induction n generalizing k with
  | zero => rfl
  | succ n ih => simp only [g_laws_eqBoolS.l4, eqL, ih, beq_dec, Option.bind_some]
theorem eqBoolS_eq {N : Nat} (hN : 18446744073709551616 ≤ N) (x y : List Bool) (h : bdBoolS 1000000000 x) : g_laws_eqBoolS N x y = some (decide (x = y)) := by
  have hl : x.length ≤ 1000000000 := h
  unfold g_laws_eqBoolS
  simp only [eqBoolS_l]
  exact eqS_eq x y (fun _ _ _ => rfl) (by omega) (by omega)
theorem eqLink_eq {N : Nat} (hN : 18446744073709551616 ≤ N) (x y : List UInt8 × Int × Int × List Bool) (h : bdLink 1000000000 x) : g_laws_eqLink N x y = some (decide (x = y)) := by
  obtain ⟨x0, x1, x2, x3⟩ := x
  obtain ⟨y0, y1, y2, y3⟩ := y
  simp only [g_laws_eqLink, eqBoolS_eq hN x3 y3 h.2, bne_dec, beq_dec, Option.bind_some, Prod.mk.injEq]
  by_cases h0 : x0 = y0 <;> by_cases h1 : x1 = y1 <;> by_cases h2 : x2 = y2 <;> by_cases h3 : x3 = y3 <;> simp only [h0, h1, h2, h3, decide_true, decide_false, Bool.not_true, Bool.not_false, cond_true, cond_false, and_true, and_false, and_self]
def mkBoolS (N : Nat) : Nat → List Bool → List Bool
  | _, [] => []
  | m, _ :: es => (((m : Nat) : Int).tmod 3 == 0) :: mkBoolS N (m + 1) es
theorem markBoolS_l {N : Nat} (hN : 18446744073709551616 ≤ N) : ∀ (n m k : Nat) (done rest : List Bool), done.length = k → rest.length < n → k + rest.length ≤ 140737488355328 → m + 1 * rest.length ≤ 9000000000000000000 →
    g_laws_markBoolS__ib.l2 N n (m : Int) (k : Int) (done ++ rest) = some (((m + 1 * rest.length : Nat) : Int), done ++ mkBoolS N m rest)
  | 0, _, _, _, _, _, h, _, _ => by omega
  | n + 1, m, k, done, [], hk, hn, hl, hm => by
    unfold g_laws_markBoolS__ib.l2
    subst hk
    simp (disch := omega) only [dec_t, dec_f, cond_false, gd_true, Int.toNat_natCast, bind_id, nc1, wi_of, List.length_nil, List.append_nil, mkBoolS, Nat.mul_zero, Nat.add_zero]
  | n + 1, m, k, done, e :: es, hk, hn, hl, hm => by
    unfold g_laws_markBoolS__ib.l2
    simp only [List.length_cons] at hn hl hm
    subst hk
    simp (disch := omega) only [dec_t, cond_true, gd_true, Int.toNat_natCast, Option.bind_some, bind_id, nc1, wi_of, List.length_append, List.length_cons, mid_get, mid_set, mkBoolS]
    rw [List.append_cons, markBoolS_l hN n (m + 1) (done.length + 1) _ es (by simp) (by omega) (by omega) (by omega)]
    simp only [List.append_assoc, List.singleton_append, Option.some.injEq, Prod.mk.injEq, and_true]
    omega
theorem heldBoolS_l {N : Nat} (hN : 18446744073709551616 ≤ N) : ∀ (n m k : Nat) (done rest : List Bool), done.length = k → rest.length < n → k + rest.length ≤ 140737488355328 → m + 1 * rest.length ≤ 9000000000000000000 →
    g_laws_heldBoolS.l2 N n (done ++ mkBoolS N m rest) (m : Int) (k : Int) = some (.inr ((m + 1 * rest.length : Nat) : Int))
  | 0, _, _, _, _, _, h, _, _ => by omega
  | n + 1, m, k, done, [], hk, hn, hl, hm => by
    unfold g_laws_heldBoolS.l2
    subst hk
    simp (disch := omega) only [dec_t, dec_f, cond_false, gd_true, Int.toNat_natCast, bind_id, nc1, wi_of, List.length_nil, List.append_nil, mkBoolS, Nat.mul_zero, Nat.add_zero]
  | n + 1, m, k, done, e :: es, hk, hn, hl, hm => by
    unfold g_laws_heldBoolS.l2
    simp only [List.length_cons] at hn hl hm
    subst hk
    simp (disch := omega) only [dec_t, cond_true, cond_false, gd_true, Bool.not_true, Int.toNat_natCast, Option.bind_some, bind_id, nc1, wi_of, List.length_append, List.length_cons, mid_get, mkBoolS, beq_self_eq_true]
    rw [List.append_cons, heldBoolS_l hN n (m + 1) (done.length + 1) _ es (by simp) (by omega) (by omega) (by omega)]
    congr 3
    omega
theorem BoolS_held {N : Nat} (hN : 18446744073709551616 ≤ N) (c : List Bool) (m : Nat) (hm : m + 1000000000 ≤ 1000000000000000000) (h : bdBoolS 1000000000 c) : ∃ o : List Bool, ∃ k : Nat, g_laws_markBoolS__ib N c (m : Int) = some (o, ((k : Nat) : Int)) ∧ m ≤ k ∧ k ≤ m + 1000000000 ∧ g_laws_heldBoolS N o (m : Int) = some (k : Int) := by
  have hl : c.length ≤ 1000000000 := h
  have e1 := markBoolS_l hN N m 0 [] c rfl (by omega) (by omega) (by omega)
  have e2 := heldBoolS_l hN N m 0 [] c rfl (by omega) (by omega) (by omega)
  simp only [List.nil_append, Int.natCast_zero] at e1 e2
  refine ⟨mkBoolS N m c, m + 1 * c.length, ?_, by omega, by omega, ?_⟩
  · unfold g_laws_markBoolS__ib
    rw [e1]; rfl
  · unfold g_laws_heldBoolS
    rw [e2]; rfl
theorem Link_held {N : Nat} (hN : 18446744073709551616 ≤ N) (c : List UInt8 × Int × Int × List Bool) (m : Nat) (hm : m + 1000000000 ≤ 1000000000000000000) (h : bdLink 1000000000 c) : ∃ (o3_0 : List Bool), ∃ k : Nat, g_laws_markLink__ib N c (m : Int) = some (o3_0, ((k : Nat) : Int)) ∧ m ≤ k ∧ k ≤ m + 1000000000 ∧ g_laws_heldLink N (c.1, c.2.1, c.2.2.1, o3_0) (m : Int) = some (k : Int) := by
  obtain ⟨o3_0, k3, e3, l3, u3, f3⟩ := BoolS_held hN c.2.2.2 m (by omega) h.2
  refine ⟨o3_0, k3, ?_, by omega, by omega, ?_⟩
  · unfold g_laws_markLink__ib
    simp (disch := omega) only [bind_id, e3]
  · unfold g_laws_heldLink
    simp (disch := omega) only [dec_f, cond_false, Option.bind_some, f3]
theorem BoolS_marked {N : Nat} (hN : 18446744073709551616 ≤ N) (c : List Bool) (m : Nat) (hm : m + 1000000000 ≤ 1000000000000000000) (h : bdBoolS 1000000000 c) : ∃ o : List Bool, ∃ k : Nat, g_laws_markBoolS__ib N c (m : Int) = some (o, ((k : Nat) : Int)) ∧ m ≤ k ∧ k ≤ m + 1000000000 := by
  have hl : c.length ≤ 1000000000 := h
  have e1 := markBoolS_l hN N m 0 [] c rfl (by omega) (by omega) (by omega)
  simp only [List.nil_append, Int.natCast_zero] at e1
  refine ⟨mkBoolS N m c, m + 1 * c.length, ?_, by omega, by omega⟩
  unfold g_laws_markBoolS__ib
  rw [e1]; rfl
theorem Link_marked {N : Nat} (hN : 18446744073709551616 ≤ N) (c : List UInt8 × Int × Int × List Bool) (m : Nat) (hm : m + 1000000000 ≤ 1000000000000000000) (h : bdLink 1000000000 c) : ∃ (o3_0 : List Bool), ∃ k : Nat, g_laws_markLink__ib N c (m : Int) = some (o3_0, ((k : Nat) : Int)) ∧ m ≤ k ∧ k ≤ m + 1000000000 := by
  obtain ⟨o3_0, k3, e3, l3, u3⟩ := BoolS_marked hN c.2.2.2 m (by omega) h.2
  refine ⟨o3_0, k3, ?_, by omega, by omega⟩
  unfold g_laws_markLink__ib
  simp (disch := omega) only [bind_id, e3]
theorem eqPacket_eq {N : Nat} (hN : 18446744073709551616 ≤ N) (x y : Int × List UInt8 × List UInt8) : g_laws_eqPacket N x y = some (decide (x = y)) := by
  obtain ⟨x0, x1, x2⟩ := x
  obtain ⟨y0, y1, y2⟩ := y
  simp only [g_laws_eqPacket, bne_dec, beq_dec, Prod.mk.injEq]
  by_cases h0 : x0 = y0 <;> by_cases h1 : x1 = y1 <;> by_cases h2 : x2 = y2 <;> simp only [h0, h1, h2, decide_true, decide_false, Bool.not_true, Bool.not_false, cond_true, cond_false, and_true, and_false, and_self]
end Go.Vm
/- Links: sending, the reference's; the law of it. -/
set_option linter.unusedVariables false
set_option maxRecDepth 100000
namespace Go.Vm
theorem sSend {N : Nat} (hN : 18446744073709551616 ≤ N) (l : LinkT) (body : List UInt8) (h1 : l.1.length ≤ 1000000000) (h2 : l.2.2.2.length ≤ 1000000000) (h3 : body.length ≤ 1000000000) : g_spec_LinkSend N l body = some (lkSend l body) := by
  unfold g_spec_LinkSend lkSend
  simp only [sLinkOK hN l h1 h2, sOwn N l h2, Option.bind_some]
  by_cases q1 : 65536 < body.length
  · simp (disch := omega) only [dec_t, cond_true, if_pos q1]
  · cases q2 : linkB l
    · simp (disch := omega) only [dec_f, cond_true, cond_false, Bool.not_false, if_neg q1, Bool.false_eq_true, if_false]
    · obtain ⟨r1, r2, r3, r4, r5, r6⟩ := linkB_range q2
      by_cases q3 : l.2.1 = 1000000
      · simp (disch := omega) only [dec_f, cond_true, cond_false, Bool.not_true, wi_of, beq_ti, if_neg q1, if_true, if_pos q3]
      · simp (disch := omega) only [dec_f, cond_false, Bool.not_true, Option.bind_some, wi_of, beq_fi, if_neg q1, if_neg q3, sTag hN, if_true]
theorem lkSend_bd (l : LinkT) (body : List UInt8) (h : bdLink 1048576 l) (hb : body.length ≤ 1048576) : bdLink 1048576 (lkSend l body).1 := by
  unfold lkSend
  split
  · exact ⟨by simp, by simp⟩
  · split
    · split
      · exact h
      · exact h
    · exact ⟨by simp, by simp⟩
theorem FnExactLinkSend_true {N : Nat} (hN : 18446744073709551616 ≤ N) (l : LinkT) (body : List UInt8) (h1 : bdLink 9223372036854775807 l) : g_laws_FnExactLinkSend N l body = some true := by
  unfold g_laws_FnExactLinkSend
  by_cases q0 : body.length ≤ 1048576
  · obtain ⟨r1, e1, k1⟩ := szLink_eq hN l 1048576 (by omega) (by omega) h1
    by_cases q1 : r1 < 0
    · simp (disch := omega) only [dec_t, dec_f, cond_true, cond_false, Option.bind_some, e1]
    obtain ⟨k1a, k1b⟩ := k1 (by omega)
    have t1 := toLink_eq hN l (bdLink_mono (by omega) k1b)
    have c1 : l.2.2.2.length ≤ 1048576 := k1b.2
    have c2 : l.1.length ≤ 1048576 := k1b.1
    have f1 := iSend hN l body (by omega) (by omega) (by omega)
    have f2 := sSend hN l body (by omega) (by omega) (by omega)
    have hg := bdLink_mono (show 1048576 ≤ 1000000000 by omega) (lkSend_bd l body k1b q0)
    have g1 := eqLink_eq hN (lkSend l body).1 (lkSend l body).1 hg
    have g2 := eqLink_eq hN l l (bdLink_mono (by omega) k1b)
    have g3 := eqPacket_eq hN (lkSend l body).2.1 (lkSend l body).2.1
    obtain ⟨o1, m1, n1, n2, _⟩ := Link_marked hN l 1 (by omega) (bdLink_mono (by omega) k1b)
    obtain ⟨o2, m2, n3, n4, _, n5⟩ := Link_held hN (lkSend l body).1 1 (by omega) hg
    rw [show ((1 : Nat) : Int) = 1 from rfl] at n1 n3 n5
    simp (disch := omega) only [dec_f, decide_true, cond_false, Bool.not_true, Option.bind_some, bne_fi, e1, t1, f1, f2, g1, g2, g3, n1, n3, n5]
  · simp (disch := omega) only [dec_t, cond_true]
theorem law_FnExactLinkSend (l : LinkT) (body : List UInt8) {q : Prop} (h1 : InR (.st (.pair .str (.pair (.int .i64) (.pair (.int .i64) (.sl .bool))))) l) (_ : q) : ∃ N, g_laws_FnExactLinkSend N l body = some true :=
  ⟨18446744073709551616, FnExactLinkSend_true (Nat.le_refl _) l body ⟨h1.1, h1.2.2.2.1⟩⟩
end Go.Vm

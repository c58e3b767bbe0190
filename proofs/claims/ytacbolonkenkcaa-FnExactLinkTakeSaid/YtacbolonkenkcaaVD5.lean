/- A part of the proof: an abstract machine, mirrors and their laws, one text behind the other. -/
import Derived.Test.YtacbolonkenkcaaVD4
/- HMAC. -/
set_option linter.unusedVariables false
set_option maxRecDepth 100000
namespace Go.Vm
def mskAt (m : UInt8) (c : UInt8) : UInt8 := wb (xorB 8 (c.toNat : Int) (m.toNat : Int))
/-- A key of 64 bytes with a mask on. -/
def mskd (m : UInt8) (k : List UInt8) : List UInt8 := (k ++ List.replicate (64 - k.length) 0).map (mskAt m)
theorem mskd_length (m : UInt8) {k : List UInt8} (h : k.length ≤ 64) : (mskd m k).length = 64 := by simp [mskd]; omega
theorem set_map {α : Type} (f : α → α) {l : List α} {i : Nat} (h : i < l.length) : ((l.take i).map f ++ l.drop i).set i (f l[i]) = (l.take (i + 1)).map f ++ l.drop (i + 1) := by
  have e : ((l.take i).map f).length = i := by rw [List.length_map, List.length_take]; omega
  have := mid_set ((l.take i).map f) l[i] (f l[i]) (l.drop (i + 1))
  rw [e] at this
  rw [drop_get h, this, List.take_add_one, get_t h, List.map_append, List.append_assoc]
  rfl
theorem get_map {α : Type} (f : α → α) {l : List α} {i : Nat} (h : i < l.length) : ((l.take i).map f ++ l.drop i)[i]? = some l[i] := by
  rw [List.getElem?_append_right (by simp; omega), drop_get h]
  simp [Nat.min_eq_left (Nat.le_of_lt h)]
theorem masked_l4 (N : Nat) (m : UInt8) (v : List UInt8) (hv : v.length ≤ 1000000) : ∀ (n i : Nat), v.length ≤ i + n - 1 → 0 < n → i ≤ v.length →
    g_impl_masked.l4 N n m (v.length : Int) (i : Int) ((v.take i).map (mskAt m) ++ v.drop i) = some (v.map (mskAt m))
  | 0, _, _, h, _ => by omega
  | n + 1, i, hn, _, hi => by
    unfold g_impl_masked.l4
    by_cases h : i < v.length
    · have hl : ((v.take i).map (mskAt m) ++ v.drop i).length = v.length := by simp; omega
      have hg := get_map (mskAt m) h
      have hr := masked_l4 N m v hv n (i + 1) (by omega) (by omega) (by omega)
      have hs := set_map (mskAt m) h
      simp only [mskAt] at hs hg hr hl ⊢
      simp (disch := omega) only [dec_t, cond_true, gd_true, Int.toNat_natCast, Option.bind_some, bind_id, nc1, wi_of, List.length_append, List.length_take, List.length_drop, List.length_map, hg, hs]
      exact hr
    · simp (disch := omega) only [dec_t, dec_f, cond_false, gd_true, Int.toNat_natCast, bind_id, nc1, wi_of, List.length_map, List.drop_of_length_le, List.append_nil, List.take_of_length_le]
theorem iMasked {N : Nat} (hN : 18446744073709551616 ≤ N) (k : List UInt8) (m : UInt8) (hk : k.length ≤ 64) : g_impl_masked N k m = some (mskd m k) := by
  have e : spliceL (List.replicate 64 (0 : UInt8)) k 0 (min k.length (List.replicate 64 (0 : Nat)).length) = k ++ List.replicate (64 - k.length) 0 := by
    unfold spliceL
    rw [List.length_replicate, Nat.min_eq_left hk, Nat.zero_add, List.take_zero, List.take_length, List.nil_append, List.drop_replicate]
  have hl : (k ++ List.replicate (64 - k.length) (0 : UInt8)).length = 64 := by simp; omega
  have := masked_l4 N m (k ++ List.replicate (64 - k.length) 0) (by omega) N 0 (by omega) (by omega) (by omega)
  simp only [List.take_zero, List.map_nil, List.nil_append, List.drop_zero, Int.natCast_zero] at this
  unfold g_impl_masked
  dsimp only
  rw [e, this]
  rfl
theorem sHmac_l6 (N : Nat) (c0 k : List UInt8) (hk : k.length ≤ 64) : ∀ (n i : Nat), 64 ≤ i + n - 1 → 0 < n → i ≤ 64 →
    g_spec_l03Hmac__ob.l6 N n c0 (i : Int) k ((mskd 54 k).take i ++ List.replicate (64 - i) 0) ((mskd 92 k).take i ++ List.replicate (64 - i) 0) = some (mskd 54 k, mskd 92 k)
  | 0, _, _, h, _ => by omega
  | n + 1, i, hn, _, hi => by
    unfold g_spec_l03Hmac__ob.l6
    have l1 := mskd_length 54 hk
    have l2 := mskd_length 92 hk
    by_cases h : i < 64
    · have hr := sHmac_l6 N c0 k hk n (i + 1) (by omega) (by omega) (by omega)
      have hl : ∀ m, ((mskd m k).take i ++ List.replicate (64 - i) (0 : UInt8)).length = 64 := fun m => by simp [mskd_length m hk]; omega
      have h1 := hl 54
      have h2 := hl 92
      have hs : ∀ m v, (mskd m k)[i]? = some v → ((mskd m k).take i ++ List.replicate (64 - i) (0 : UInt8)).set i v = (mskd m k).take (i + 1) ++ List.replicate (64 - (i + 1)) 0 := fun m v hv => by
        have := mskd_length m hk
        have e : ((mskd m k).take i).length = i := by rw [List.length_take]; omega
        have q := mid_set ((mskd m k).take i) 0 v (List.replicate (64 - (i + 1)) 0)
        rw [e] at q
        rw [show 64 - i = (64 - (i + 1)) + 1 by omega, List.replicate_succ, q, List.take_add_one, hv, List.append_assoc]
        rfl
      by_cases hik : i < k.length
      · have hm : ∀ m, (mskd m k)[i]? = some (mskAt m k[i]) := fun m => by
          unfold mskd
          rw [List.getElem?_map, List.getElem?_append_left hik, get_t hik]; rfl
        have hs1 := hs 54 _ (hm 54)
        have hs2 := hs 92 _ (hm 92)
        simp only [mskAt] at hs1 hs2
        rw [show ((54 : UInt8).toNat : Int) = 54 from rfl] at hs1
        rw [show ((92 : UInt8).toNat : Int) = 92 from rfl] at hs2
        simp (disch := omega) only [dec_t, cond_true, gd_true, Int.toNat_natCast, get_t, Option.bind_some, bind_id, nc1, wi_of, List.length_append, List.length_replicate, List.length_take, hs1, hs2]
        exact hr
      · have hm : ∀ m, (mskd m k)[i]? = some (mskAt m 0) := fun m => by
          unfold mskd
          rw [List.getElem?_map, List.getElem?_append_right (by omega), List.getElem?_replicate, if_pos (by omega)]; rfl
        have hs1 := hs 54 _ (hm 54)
        have hs2 := hs 92 _ (hm 92)
        rw [show mskAt 54 0 = 54 from by decide +kernel] at hs1
        rw [show mskAt 92 0 = 92 from by decide +kernel] at hs2
        simp (disch := omega) only [dec_t, dec_f, cond_true, cond_false, gd_true, Int.toNat_natCast, get_t, Option.bind_some, bind_id, nc1, wi_of, List.length_append, List.length_replicate, List.length_take, hs1, hs2]
        exact hr
    · obtain rfl : i = 64 := by omega
      simp (disch := omega) only [dec_t, dec_f, cond_false, gd_true, Int.toNat_natCast, bind_id, nc1, wi_of, Nat.sub_self, List.replicate_zero, List.append_nil, List.take_of_length_le]
def hkey (k : List UInt8) : List UInt8 := if k.length > 64 then sha k else k
theorem hkey_length (k : List UInt8) : (hkey k).length ≤ 64 := by
  unfold hkey; split
  · rw [sha_length]; omega
  · omega
def hmac (k b : List UInt8) : List UInt8 := sha (mskd 92 (hkey k) ++ sha (mskd 54 (hkey k) ++ b))
theorem hmac_length (k b : List UInt8) : (hmac k b).length = 32 := sha_length _
theorem iHmac {N : Nat} (hN : 18446744073709551616 ≤ N) (k b : List UInt8) (hk : k.length ≤ 70368744177000) (hb : b.length ≤ 70368744177000) : g_impl_hmac N k b = some (hmac k b) := by
  unfold g_impl_hmac
  have l1 := mskd_length 54 (hkey_length k)
  have l2 := mskd_length 92 (hkey_length k)
  have e1 := iMasked hN (hkey k) 92 (hkey_length k)
  have e2 := iMasked hN (hkey k) 54 (hkey_length k)
  have e3 := iHash hN (mskd 54 (hkey k) ++ b) (by rw [List.length_append]; omega)
  have e4 := iHash hN (mskd 92 (hkey k) ++ sha (mskd 54 (hkey k) ++ b)) (by rw [List.length_append, sha_length]; omega)
  have ls := sha_length (mskd 54 (hkey k) ++ b)
  by_cases h : k.length > 64
  · have ek : hkey k = sha k := if_pos h
    have e0 := iHash hN k (by omega)
    rw [ek] at e1 e2 e3 e4 l1 l2 ls
    simp (disch := omega) only [dec_t, cond_true, gd_true, Option.bind_some, bind_id, e0, e1, e2, e3, e4, hmac, ek]
  · have ek : hkey k = k := if_neg h
    rw [ek] at e1 e2 e3 e4 l1 l2 ls
    simp (disch := omega) only [dec_t, dec_f, cond_false, gd_true, Option.bind_some, bind_id, e1, e2, e3, e4, hmac, ek]
theorem sHmac {N : Nat} (hN : 18446744073709551616 ≤ N) (k b : List UInt8) (hk : k.length ≤ 70368744177000) (hb : b.length ≤ 70368744177000) : g_spec_l03Hmac__ob N k b = some (hmac k b) := by
  unfold g_spec_l03Hmac__ob
  have l1 := mskd_length 54 (hkey_length k)
  have l2 := mskd_length 92 (hkey_length k)
  have e1 := sHmac_l6 N b (hkey k) (hkey_length k) N 0 (by omega) (by omega) (by omega)
  have e3 := sHash hN (mskd 54 (hkey k) ++ b) (by rw [List.length_append]; omega)
  have e4 := sHash hN (mskd 92 (hkey k) ++ sha (mskd 54 (hkey k) ++ b)) (by rw [List.length_append, sha_length]; omega)
  have ls := sha_length (mskd 54 (hkey k) ++ b)
  simp only [List.take_zero, List.nil_append, Int.natCast_zero, Nat.sub_zero] at e1
  by_cases h : k.length > 64
  · have ek : hkey k = sha k := if_pos h
    have e0 := sHash hN k (by omega)
    rw [ek] at e1 e3 e4 l1 l2 ls
    simp (disch := omega) only [dec_t, cond_true, gd_true, Option.bind_some, bind_id, room_t, e0, e1, e3, e4, hmac, ek]
  · have ek : hkey k = k := if_neg h
    rw [ek] at e1 e3 e4 l1 l2 ls
    simp (disch := omega) only [dec_f, cond_false, gd_true, Option.bind_some, bind_id, room_t, e1, e3, e4, hmac, ek]
end Go.Vm
/- Links: what both programs' functions on links do. -/
set_option linter.unusedVariables false
set_option maxRecDepth 100000
namespace Go.Vm
abbrev LinkT := List UInt8 × Int × Int × List Bool
abbrev PktT := Int × List UInt8 × List UInt8
theorem iWithin (N : Nat) (a b c : Int) : g_impl_within N a b c = some (decide (b ≤ a) && decide (a ≤ c)) := by
  unfold g_impl_within
  by_cases h : b ≤ a
  · simp only [dec_t h, cond_true, Bool.true_and]
  · simp only [dec_f h, cond_false, Bool.false_and]
theorem sIn (N : Nat) (a b c : Int) : g_spec_l01In N a b c = some (decide (b ≤ a) && decide (a ≤ c)) := by
  unfold g_spec_l01In
  by_cases h : b ≤ a
  · simp only [dec_t h, ge_iff_le, cond_true, Bool.true_and]
  · simp only [dec_f h, ge_iff_le, cond_false, Bool.false_and]
theorem sFour (N : Nat) (x : Int) : g_spec_l02Four N x = some (bytesN 4 x) := by rw [bytesN4]; rfl
/-- A packet's tag. -/
def lkTag (key : List UInt8) (seq : Int) (body : List UInt8) : List UInt8 := (hmac key (bytesN 4 seq ++ body)).take 16
theorem iTag {N : Nat} (hN : 18446744073709551616 ≤ N) (key : List UInt8) (seq : Int) (body : List UInt8) (hk : key.length ≤ 1000000000) (hb : body.length ≤ 1000000000) : g_impl_packetTag N key seq body = some (lkTag key seq body) := by
  unfold g_impl_packetTag
  have e1 := bytesOf_eq hN seq 4 (by omega)
  rw [show ((4 : Nat) : Int) = 4 from rfl] at e1
  have l1 := bytesN_length 4 seq
  have e2 := iHmac hN key (bytesN 4 seq ++ body) (by omega) (by rw [List.length_append]; omega)
  have l2 := hmac_length key (bytesN 4 seq ++ body)
  simp (disch := omega) only [dec_t, gd_true, Bool.true_and, Option.bind_some, e1, e2, List.drop_zero, lkTag]
theorem sTag {N : Nat} (hN : 18446744073709551616 ≤ N) (key : List UInt8) (seq : Int) (body : List UInt8) (hk : key.length ≤ 1000000000) (hb : body.length ≤ 1000000000) : g_spec_l07Tag N key seq body = some (lkTag key seq body) := by
  unfold g_spec_l07Tag
  have l1 := bytesN_length 4 seq
  have e2 := sHmac hN key (bytesN 4 seq ++ body) (by omega) (by rw [List.length_append]; omega)
  have l2 := hmac_length key (bytesN 4 seq ++ body)
  simp (disch := omega) only [dec_t, gd_true, Bool.true_and, Option.bind_some, room_t, sFour, e2, List.drop_zero, lkTag]
/-- No flag stands at a place that is not behind top. -/
def winR (top : Int) : Nat → List Bool → Bool
  | _, [] => true
  | k, x :: xs => bif x && decide (top ≤ (k : Int)) then false else winR top (k + 1) xs
theorem linkOK_l4 (N : Nat) (top : Int) (c0 : List Bool) (m3 : List UInt8) (m4 : Int) (m6 : List Bool) (hl : c0.length ≤ 1000000) (ht : 0 ≤ top ∧ top ≤ 1000000) : ∀ (n k : Nat), c0.length ≤ k + n - 1 → 0 < n → k ≤ c0.length →
    g_impl_LinkOK.l4 N n c0 (c0.length : Int) (k : Int) m3 m4 top m6 = some (bif winR top k (c0.drop k) then .inr () else .inl false)
  | 0, _, _, h, _ => by omega
  | n + 1, k, hn, _, hk => by
    unfold g_impl_LinkOK.l4
    by_cases h : k < c0.length
    · rw [drop_get h, winR]
      cases hv : c0[k]
      · simp (disch := omega) only [dec_t, cond_true, cond_false, gd_true, Int.toNat_natCast, get_t, Option.bind_some, bind_id, nc1, wi_of, hv, linkOK_l4 N top c0 m3 m4 m6 hl ht n (k + 1), Bool.false_and]
      · by_cases h2 : top ≤ (k : Int)
        · simp (disch := omega) only [dec_t, cond_true, cond_false, gd_true, Bool.and_self, Int.toNat_natCast, get_t, Option.bind_some, bind_id, nc1, wi_of, hv]
        · simp (disch := omega) only [dec_t, dec_f, cond_true, cond_false, gd_true, Bool.true_and, Int.toNat_natCast, get_t, Option.bind_some, bind_id, nc1, wi_of, hv, linkOK_l4 N top c0 m3 m4 m6 hl ht n (k + 1)]
    · simp (disch := omega) only [dec_t, dec_f, cond_true, cond_false, gd_true, Int.toNat_natCast, bind_id, nc1, wi_of, List.drop_of_length_le, winR]
theorem sLinkOK_l4 (N : Nat) (top : Int) (m1 : List UInt8) (m2 : Int) (c0 : List Bool) (hl : c0.length = 32) : ∀ (n k : Nat), c0.length ≤ k + n - 1 → 0 < n → k ≤ c0.length →
    g_spec_LinkOK.l4 N n (k : Int) m1 m2 top c0 = some (bif winR top k (c0.drop k) then .inr () else .inl false)
  | 0, _, h, _, _ => by omega
  | n + 1, k, hn, _, hk => by
    unfold g_spec_LinkOK.l4
    by_cases h : k < c0.length
    · rw [drop_get h, winR]
      cases hv : c0[k]
      · simp (disch := omega) only [dec_t, cond_true, cond_false, gd_true, Int.toNat_natCast, get_t, Option.bind_some, bind_id, nc1, wi_of, hv, sLinkOK_l4 N top m1 m2 c0 hl n (k + 1), Bool.false_and]
      · by_cases h2 : top ≤ (k : Int)
        · simp (disch := omega) only [dec_t, cond_true, cond_false, gd_true, Bool.and_self, Int.toNat_natCast, get_t, Option.bind_some, bind_id, nc1, wi_of, hv, ge_iff_le]
        · simp (disch := omega) only [dec_t, dec_f, cond_true, cond_false, gd_true, Bool.true_and, Int.toNat_natCast, get_t, Option.bind_some, bind_id, nc1, wi_of, hv, sLinkOK_l4 N top m1 m2 c0 hl n (k + 1), ge_iff_le]
    · simp (disch := omega) only [dec_t, dec_f, cond_true, cond_false, gd_true, Int.toNat_natCast, bind_id, nc1, wi_of, List.drop_of_length_le, winR]
/-- Whether a link is right. -/
def linkB (l : LinkT) : Bool := decide (l.1.length = 32) && (decide (0 ≤ l.2.1) && decide (l.2.1 ≤ 1000000)) && (decide (0 ≤ l.2.2.1) && decide (l.2.2.1 ≤ 1000000)) && decide (l.2.2.2.length = 32) && (l.2.2.2[0]?.getD false == decide (0 < l.2.2.1)) && winR l.2.2.1 0 l.2.2.2
theorem iLinkOK {N : Nat} (hN : 18446744073709551616 ≤ N) (l : LinkT) (h1 : l.1.length ≤ 1000000000) (h2 : l.2.2.2.length ≤ 1000000000) : g_impl_LinkOK N l = some (linkB l) := by
  obtain ⟨key, sent, top, win⟩ := l
  dsimp only at h1 h2
  unfold g_impl_LinkOK linkB
  simp only [iWithin, Option.bind_some]
  by_cases q1 : key.length = 32
  · by_cases q2 : 0 ≤ sent ∧ sent ≤ 1000000
    · by_cases q3 : 0 ≤ top ∧ top ≤ 1000000
      · by_cases q4 : win.length = 32
        · have e := linkOK_l4 N top win key sent win (by omega) q3 N 0 (by omega) (by omega) (by omega)
          rw [Int.natCast_zero, List.drop_zero] at e
          have ed : (top != 0) = decide (0 < top) := by
            rw [bne_dec]
            by_cases h : top = 0
            · rw [dec_t h, dec_f (by omega)]; rfl
            · rw [dec_f h, dec_t (by omega)]; rfl
          have eg : win[0]?.getD false = win[0] := by rw [get_t (show 0 < win.length by omega)]; rfl
          rw [eg]
          simp (disch := omega) only [dec_t, decide_true, cond_false, Bool.not_true, Bool.true_and, Bool.and_self, get_t, Option.bind_some, bne_fi, q1, q2.1, q2.2, q3.1, q3.2, e, ed]
          cases (win[0] == decide (0 < top))
          · simp only [Bool.not_false, cond_true, Bool.false_and]
          · simp only [Bool.not_true, cond_false, Bool.true_and]
            cases winR top 0 win <;> rfl
        · simp (disch := omega) only [dec_f, decide_true, cond_true, cond_false, Bool.not_true, Bool.and_self, bne_ti, bne_fi, q1, q2.1, q2.2, q3.1, q3.2, Bool.and_false, Bool.false_and]
      · have : (decide (0 ≤ top) && decide (top ≤ 1000000)) = false := by rw [← Bool.decide_and, dec_f q3]
        simp (disch := omega) only [decide_true, cond_true, cond_false, Bool.not_true, Bool.not_false, Bool.and_self, bne_ti, bne_fi, q1, q2.1, q2.2, this, Bool.and_false, Bool.false_and]
    · have : (decide (0 ≤ sent) && decide (sent ≤ 1000000)) = false := by rw [← Bool.decide_and, dec_f q2]
      simp (disch := omega) only [decide_true, cond_true, cond_false, Bool.not_false, bne_fi, q1, this, Bool.and_false, Bool.false_and]
  · simp (disch := omega) only [dec_f, cond_true, bne_ti, Bool.false_and]
theorem sLinkOK {N : Nat} (hN : 18446744073709551616 ≤ N) (l : LinkT) (h1 : l.1.length ≤ 1000000000) (h2 : l.2.2.2.length ≤ 1000000000) : g_spec_LinkOK N l = some (linkB l) := by
  obtain ⟨key, sent, top, win⟩ := l
  dsimp only at h1 h2
  unfold g_spec_LinkOK linkB
  simp only [sIn, Option.bind_some]
  by_cases q1 : key.length = 32
  · by_cases q2 : 0 ≤ sent ∧ sent ≤ 1000000
    · by_cases q3 : 0 ≤ top ∧ top ≤ 1000000
      · by_cases q4 : win.length = 32
        · have e := sLinkOK_l4 N top key sent win q4 N 1 (by omega) (by omega) (by omega)
          rw [show ((1 : Nat) : Int) = 1 from rfl] at e
          have eg : win[0]?.getD false = win[0] := by rw [get_t (show 0 < win.length by omega)]; rfl
          have ew : (win[0] == decide (0 < top)) = true → winR top 0 win = winR top 1 (win.drop 1) := fun h => by
            have h3 := drop_get (xs := win) (i := 0) (by omega)
            rw [List.drop_zero] at h3
            rw [h3, winR]
            have h6 : (win[0] && decide (top ≤ ((0 : Nat) : Int))) = false := by
              cases h4 : win[0]
              · rfl
              · rw [h4] at h
                by_cases h5 : 0 < top
                · rw [dec_f (by omega)]; rfl
                · rw [dec_f h5] at h; cases h
            rw [h6, cond_false, show (win[0] :: win.drop (0 + 1)).drop 1 = win.drop (0 + 1) from rfl]
          rw [eg]
          simp (disch := omega) only [dec_t, decide_true, cond_false, Bool.not_true, Bool.true_and, Bool.and_self, get_t, Option.bind_some, bne_fi, q1, q2.1, q2.2, q3.1, q3.2, e, gt_iff_lt]
          cases hb : (win[0] == decide (0 < top))
          · simp only [Bool.not_false, cond_true, Bool.false_and]
          · rw [ew hb]
            simp only [Bool.not_true, cond_false, Bool.true_and]
            cases winR top 1 (win.drop 1) <;> rfl
        · simp (disch := omega) only [dec_f, decide_true, cond_true, cond_false, Bool.not_true, Bool.and_self, bne_ti, bne_fi, q1, q2.1, q2.2, q3.1, q3.2, Bool.and_false, Bool.false_and]
      · have : (decide (0 ≤ top) && decide (top ≤ 1000000)) = false := by rw [← Bool.decide_and, dec_f q3]
        simp (disch := omega) only [decide_true, cond_true, cond_false, Bool.not_true, Bool.not_false, Bool.and_self, bne_fi, q1, q2.1, q2.2, this, Bool.and_false, Bool.false_and]
    · have : (decide (0 ≤ sent) && decide (sent ≤ 1000000)) = false := by rw [← Bool.decide_and, dec_f q2]
      simp (disch := omega) only [decide_true, cond_true, cond_false, Bool.not_false, bne_fi, q1, this, Bool.and_false, Bool.false_and]
  · simp (disch := omega) only [dec_f, cond_true, bne_ti, Bool.false_and]
theorem cloneB (N : Nat) (xs : List Bool) (h : xs.length ≤ 1000000000) : g_slices_Clone_Sbool_bool N xs = some xs := by
  unfold g_slices_Clone_Sbool_bool
  cases xs with
  | nil => rfl
  | cons x xs =>
    unfold g_slices_Clone_Sbool_bool_v
    simp only [List.isEmpty_cons, cond_false]
    rw [room_t (by omega)]; simp only [gd_true, List.nil_append]
theorem iOwn (N : Nat) (l : LinkT) (h : l.2.2.2.length ≤ 1000000000) : g_impl_Link_own N l = some l := by
  unfold g_impl_Link_own; simp only [cloneB N _ h, Option.bind_some]
theorem sOwn (N : Nat) (l : LinkT) (h : l.2.2.2.length ≤ 1000000000) : g_spec_l07Own N l = some l := by
  unfold g_spec_l07Own; rw [room_t (by omega)]; simp only [gd_true, List.nil_append]
theorem linkB_range {l : LinkT} (h : linkB l = true) : l.1.length = 32 ∧ 0 ≤ l.2.1 ∧ l.2.1 ≤ 1000000 ∧ 0 ≤ l.2.2.1 ∧ l.2.2.1 ≤ 1000000 ∧ l.2.2.2.length = 32 := by
  unfold linkB at h
  simp only [Bool.and_eq_true, decide_eq_true_eq] at h
  omega
end Go.Vm
/- Links: taking. -/
set_option linter.unusedVariables false
set_option maxRecDepth 100000
namespace Go.Vm
def shiftW (d : Nat) (w : List Bool) : List Bool := (List.range 32).map fun i => if d ≤ i then w[i - d]?.getD false else false
theorem shiftW_length (d : Nat) (w : List Bool) : (shiftW d w).length = 32 := by simp [shiftW]
theorem shiftW_get (d : Nat) (w : List Bool) {i : Nat} (h : i < 32) : (shiftW d w)[i]? = some (if d ≤ i then w[i - d]?.getD false else false) := by
  unfold shiftW
  rw [List.getElem?_map, List.getElem?_range h]; rfl
theorem tset {α : Type} {S w : List α} {i : Nat} {v : α} (hS : S[i]? = some v) (hw : i < w.length) : (S.take i ++ w.drop i).set i v = S.take (i + 1) ++ w.drop (i + 1) := by
  obtain ⟨h, _⟩ := List.getElem?_eq_some_iff.1 hS
  have e : (S.take i).length = i := by rw [List.length_take]; omega
  have := mid_set (S.take i) w[i] v (w.drop (i + 1))
  rw [e] at this
  rw [drop_get hw, this, List.take_add_one, hS, List.append_assoc]
  rfl
theorem dset {α : Type} {S w : List α} {i : Nat} {v : α} (hS : S[i]? = some v) (hw : i < w.length) : (w.take (i + 1) ++ S.drop (i + 1)).set i v = w.take i ++ S.drop i := by
  obtain ⟨h, hv⟩ := List.getElem?_eq_some_iff.1 hS
  have e : (w.take i).length = i := by rw [List.length_take]; omega
  have := mid_set (w.take i) w[i] v (S.drop (i + 1))
  rw [e] at this
  rw [List.take_add_one, get_t hw, show (some w[i]).toList = [w[i]] from rfl, List.append_assoc, List.singleton_append, this, drop_get h, hv]
theorem take_l10 (N : Nat) (d : Nat) (hd : 1 ≤ d) (hd2 : d ≤ 1000000) (m2 : List UInt8) (m3 m4 : Int) (w : List Bool) (hw : w.length = 32) (m6 : Int) (h64 : m6 - m4 = (d : Int)) (h0 : 0 ≤ m4) (m7 m8 m9 : List UInt8) (m10 m11 : Int) (m12 : List UInt8) (m13 m14 : Int) : ∀ (n i : Nat), 32 ≤ i + n - 1 → 0 < n → i ≤ 32 →
    g_impl_LinkTake.l10 N n 32 (i : Int) m2 m3 m4 w m6 m7 m8 m9 m10 m11 m12 m13 m14 ((shiftW d w).take i ++ w.drop i) = some (m6, m7, m8, m9, m10, m11, m12, m13, m14, shiftW d w)
  | 0, _, _, h, _ => by omega
  | n + 1, i, hn, _, hi => by
    unfold g_impl_LinkTake.l10
    have hsl := shiftW_length d w
    have hl : ((shiftW d w).take i ++ w.drop i).length = 32 := by rw [List.length_append, List.length_take, List.length_drop]; omega
    by_cases h : i < 32
    · have hg := get_t (show i < ((shiftW d w).take i ++ w.drop i).length by omega)
      have hs := shiftW_get d w h
      have hr := take_l10 N d hd hd2 m2 m3 m4 w hw m6 h64 h0 m7 m8 m9 m10 m11 m12 m13 m14 n (i + 1) (by omega) (by omega) (by omega)
      have e0 : wi (m6 - m4) = (d : Int) := by rw [h64, wi_of (by omega) (by omega)]
      by_cases hdi : d ≤ i
      · rw [if_pos hdi] at hs
        have hq := tset hs (show i < w.length by omega)
        have e1 : ((i : Int) - d).toNat = i - d := by omega
        rw [get_t (show i - d < w.length by omega), Option.getD_some] at hq
        simp only [e0]
        simp (disch := omega) only [dec_t, cond_true, gd_true, Int.toNat_natCast, get_t, Option.bind_some, bind_id, nc1, wi_of, List.length_append, List.length_take, List.length_drop, e1, hg, hq, ge_iff_le]
        exact hr
      · rw [if_neg hdi] at hs
        have hq := tset hs (show i < w.length by omega)
        simp only [e0]
        simp (disch := omega) only [dec_t, dec_f, cond_true, cond_false, gd_true, Int.toNat_natCast, get_t, Option.bind_some, bind_id, nc1, wi_of, List.length_append, List.length_take, List.length_drop, hg, hq, ge_iff_le]
        exact hr
    · obtain rfl : i = 32 := by omega
      have := shiftW_length d w
      simp (disch := omega) only [dec_t, dec_f, cond_false, gd_true, Int.toNat_natCast, bind_id, nc1, wi_of, List.drop_of_length_le, List.append_nil, List.take_of_length_le]
theorem sTake_l17 (N : Nat) (d : Nat) (hd : 1 ≤ d) (hd2 : d ≤ 1000000) (m2 : List UInt8) (m3 m4 : Int) (w : List Bool) (hw : w.length = 32) (m6 : Int) (m7 m8 m9 : List UInt8) (m10 m11 : Int) (m12 : List UInt8) (m13 m14 : Int) : ∀ (n i : Nat), i < n → i ≤ 32 →
    g_spec_LinkTake.l17 N n (d : Int) ((i : Int) - 1) m2 m3 m4 w m6 m7 m8 m9 m10 m11 m12 m13 m14 (w.take i ++ (shiftW d w).drop i) = some (m6, m7, m8, m9, m10, m11, m12, m13, m14, shiftW d w)
  | 0, _, h, _ => by omega
  | n + 1, 0, _, _ => by
    unfold g_spec_LinkTake.l17
    simp (disch := omega) only [dec_f, cond_false, bind_id, wi_of, List.take_zero, List.nil_append, List.drop_zero]
  | n + 1, i + 1, h, hi => by
    unfold g_spec_LinkTake.l17
    have hsl := shiftW_length d w
    have hl : (w.take (i + 1) ++ (shiftW d w).drop (i + 1)).length = 32 := by rw [List.length_append, List.length_take, List.length_drop]; omega
    have hg := get_t (show i < (w.take (i + 1) ++ (shiftW d w).drop (i + 1)).length by omega)
    have hs := shiftW_get d w (show i < 32 by omega)
    have hr := sTake_l17 N d hd hd2 m2 m3 m4 w hw m6 m7 m8 m9 m10 m11 m12 m13 m14 n i (by omega) (by omega)
    have e : (((i + 1 : Nat) : Int) - 1) = (i : Int) := by omega
    rw [e]
    by_cases hdi : d ≤ i
    · rw [if_pos hdi] at hs
      have hq := dset hs (show i < w.length by omega)
      have e1 : ((i : Int) - d).toNat = i - d := by omega
      rw [get_t (show i - d < w.length by omega), Option.getD_some] at hq
      simp (disch := omega) only [dec_t, cond_true, gd_true, Int.toNat_natCast, get_t, Option.bind_some, bind_id, wi_of, List.length_append, List.length_take, List.length_drop, e1, hg, hq, ge_iff_le]
      exact hr
    · rw [if_neg hdi] at hs
      have hq := dset hs (show i < w.length by omega)
      simp (disch := omega) only [dec_t, dec_f, cond_true, cond_false, gd_true, Int.toNat_natCast, get_t, Option.bind_some, bind_id, wi_of, List.length_append, List.length_take, List.length_drop, hg, hq, ge_iff_le]
      exact hr
def lkTake (l : LinkT) (p : PktT) : LinkT × Int :=
  if linkB l = true then
    if 1 ≤ p.1 ∧ p.1 ≤ 1000000 then
      if p.2.2 = lkTag l.1 p.1 p.2.1 then
        if p.1 ≤ l.2.2.1 - 32 then (l, 15)
        else if p.1 ≤ l.2.2.1 then
          if l.2.2.2[(l.2.2.1 - p.1).toNat]?.getD false = true then (l, 14) else ((l.1, l.2.1, l.2.2.1, l.2.2.2.set (l.2.2.1 - p.1).toNat true), 0)
        else ((l.1, l.2.1, p.1, (shiftW (p.1 - l.2.2.1).toNat l.2.2.2).set 0 true), 0)
      else (l, 10)
    else (l, 4)
  else (([], 0, 0, []), 1)
theorem iTake {N : Nat} (hN : 18446744073709551616 ≤ N) (l : LinkT) (p : PktT) (h1 : l.1.length ≤ 1000000000) (h2 : l.2.2.2.length ≤ 1000000000) (h3 : p.2.1.length ≤ 1000000000) : g_impl_LinkTake N l p = some (lkTake l p) := by
  obtain ⟨key, sent, top, win⟩ := l
  obtain ⟨seq, body, tag⟩ := p
  dsimp only at h1 h2 h3
  unfold g_impl_LinkTake lkTake g_impl_Link_takeCode g_impl_isSeq
  have eT := iTag hN key seq body h1 h3
  have eO := iOwn N (key, sent, top, win) h2
  simp only [iLinkOK hN (key, sent, top, win) h1 h2, eO, iWithin, eT, Option.bind_some]
  cases q2 : linkB (key, sent, top, win)
  · simp only [Bool.not_false, cond_true, Bool.false_eq_true, if_false]
  · obtain ⟨r1, r2, r3, r4, r5, r6⟩ := linkB_range q2
    dsimp only at r1 r2 r3 r4 r5 r6
    by_cases q3 : 1 ≤ seq ∧ seq ≤ 1000000
    · by_cases q4 : tag = lkTag key seq body
      · simp only [if_true, if_pos q3, if_pos q4, beq_dec, dec_t q4, dec_t q3.1, dec_t q3.2, Bool.and_self, Bool.not_true, cond_false]
        have ew : wi (top - 32) = top - 32 := wi_of (by omega) (by omega)
        rw [ew]
        by_cases q5 : seq ≤ top - 32
        · simp (disch := omega) only [dec_t, dec_f, cond_true, cond_false, gd_true, Option.bind_some, wi_of, bne_ti, if_pos q5]
        · by_cases q6 : seq ≤ top
          · have eg : win[(top - seq).toNat]?.getD false = win[(top - seq).toNat] := by rw [get_t (show (top - seq).toNat < win.length by omega)]; rfl
            have e6 : seq ≤ top := q6
            rw [if_neg q5, if_pos q6, eg]
            simp (disch := omega) only [dec_t, dec_f, cond_true, cond_false, gd_true, get_t, Option.bind_some, wi_of]
            cases hv : win[(top - seq).toNat]
            · simp (disch := omega) only [cond_false, Option.bind_some, bne_fi, Bool.false_eq_true, if_false]
            · simp (disch := omega) only [cond_true, Option.bind_some, bne_ti, if_true]
          · have e := take_l10 N (seq - top).toNat (by omega) (by omega) key sent top win r6 seq (by omega) r4 body tag [] 0 0 key sent seq N 0 (by omega) (by omega) (by omega)
            rw [Int.natCast_zero, List.take_zero, List.nil_append, List.drop_zero] at e
            have hl := shiftW_length (seq - top).toNat win
            have e0 : wi (seq - seq) = 0 := by rw [wi_of (by omega) (by omega)]; omega
            rw [if_neg q5, if_neg q6]
            simp (disch := omega) only [dec_t, dec_f, cond_true, cond_false, gd_true, get_t, Option.bind_some, wi_of, bne_fi, r6]
            rw [show ((32 : Nat) : Int) = 32 from rfl, e]
            simp (disch := omega) only [dec_t, gd_true, get_t, Option.bind_some, wi_of, Int.toNat_zero, Int.sub_self]
      · simp only [if_true, if_pos q3, if_neg q4, beq_dec, dec_f q4, dec_t q3.1, dec_t q3.2, Bool.and_self, Bool.not_true, cond_false, Bool.not_false, cond_true]
        rfl
    · have : (decide (1 ≤ seq) && decide (seq ≤ 1000000)) = false := by rw [← Bool.decide_and, dec_f q3]
      simp only [if_true, if_neg q3, this, Bool.not_false, cond_true, Bool.not_true, cond_false]
      rfl
theorem sTake {N : Nat} (hN : 18446744073709551616 ≤ N) (l : LinkT) (p : PktT) (h1 : l.1.length ≤ 1000000000) (h2 : l.2.2.2.length ≤ 1000000000) (h3 : p.2.1.length ≤ 1000000000) : g_spec_LinkTake N l p = some (lkTake l p) := by
  obtain ⟨key, sent, top, win⟩ := l
  obtain ⟨seq, body, tag⟩ := p
  dsimp only at h1 h2 h3
  unfold g_spec_LinkTake lkTake
  have eT := sTag hN key seq body h1 h3
  have eO := sOwn N (key, sent, top, win) h2
  simp only [sLinkOK hN (key, sent, top, win) h1 h2, eO, sIn, eT, Option.bind_some]
  cases q2 : linkB (key, sent, top, win)
  · simp only [Bool.not_false, cond_true, Bool.false_eq_true, if_false]
  · obtain ⟨r1, r2, r3, r4, r5, r6⟩ := linkB_range q2
    dsimp only at r1 r2 r3 r4 r5 r6
    by_cases q3 : 1 ≤ seq ∧ seq ≤ 1000000
    · by_cases q4 : tag = lkTag key seq body
      · simp only [if_true, if_pos q3, if_pos q4, beq_dec, dec_t q4.symm, dec_t q3.1, dec_t q3.2, Bool.and_self, Bool.not_true, cond_false]
        have ew : wi (top - 32) = top - 32 := wi_of (by omega) (by omega)
        rw [ew]
        by_cases q5 : seq ≤ top - 32
        · simp (disch := omega) only [dec_t, dec_f, cond_true, gd_true, wi_of, if_pos q5]
        · by_cases q6 : seq ≤ top
          · have eg : win[(top - seq).toNat]?.getD false = win[(top - seq).toNat] := by rw [get_t (show (top - seq).toNat < win.length by omega)]; rfl
            rw [if_neg q5, if_pos q6, eg]
            simp (disch := omega) only [dec_t, dec_f, cond_true, cond_false, gd_true, get_t, Option.bind_some, wi_of]
            cases hv : win[(top - seq).toNat]
            · simp (disch := omega) only [cond_false, Bool.false_eq_true, if_false]
            · simp (disch := omega) only [cond_true, if_true]
          · have e := sTake_l17 N (seq - top).toNat (by omega) (by omega) key sent top win r6 seq body tag [] 0 0 key sent top N 32 (by omega) (by omega)
            have hl := shiftW_length (seq - top).toNat win
            rw [List.take_of_length_le (by omega), List.drop_of_length_le (by omega), List.append_nil, show (((32 : Nat) : Int) - 1) = 31 from rfl, show (((seq - top).toNat : Nat) : Int) = seq - top by omega] at e
            rw [if_neg q5, if_neg q6]
            simp (disch := omega) only [dec_t, dec_f, cond_false, gd_true, get_t, Option.bind_some, wi_of, e]
      · simp only [if_true, if_pos q3, if_neg q4, beq_dec, dec_f (Ne.symm q4), dec_t q3.1, dec_t q3.2, Bool.and_self, Bool.not_true, cond_false, Bool.not_false, cond_true]
    · have : (decide (1 ≤ seq) && decide (seq ≤ 1000000)) = false := by rw [← Bool.decide_and, dec_f q3]
      simp only [if_true, if_neg q3, this, Bool.not_false, cond_true, Bool.not_true, cond_false]
end Go.Vm
/- The laws' own helpers: marks, sizes. -/
set_option linter.unusedVariables false
set_option maxRecDepth 100000
namespace Go.Vm
end Go.Vm
/- The laws' own helpers, printed by a program of ours. -/
set_option linter.unusedVariables false
set_option maxRecDepth 100000
namespace Go.Vm
abbrev bdBoolS (n : Nat) (x : List Bool) : Prop := x.length ≤ n
theorem bdBoolS_mono {n m : Nat} (hm : n ≤ m) {x : List Bool} (h : bdBoolS n x) : bdBoolS m x := Nat.le_trans h hm
abbrev bdLink (n : Nat) (x : List UInt8 × Int × Int × List Bool) : Prop := (x.1).length ≤ n ∧ bdBoolS n x.2.2.2
theorem bdLink_mono {n m : Nat} (hm : n ≤ m) {x : List UInt8 × Int × Int × List Bool} (h : bdLink n x) : bdLink m x := ⟨Nat.le_trans h.1 hm, bdBoolS_mono hm h.2⟩
theorem toBoolS_l (N n : Nat) (c ys : List Bool) (k : Int) : g_laws_toBoolS.l3 N n c k ys = toL2 some n c k ys := by
  induction n generalizing k ys with
  | zero => rfl
  | succ n ih => simp only [g_laws_toBoolS.l3, toL2, ih, Option.bind_some]
theorem toBoolS_eq {N : Nat} (hN : 18446744073709551616 ≤ N) (c : List Bool) (h : bdBoolS 1000000000 c) : g_laws_toBoolS N c = some c := by
  have hl : c.length ≤ 1000000000 := h
  unfold g_laws_toBoolS
  simp (disch := omega) only [toBoolS_l, dec_t, gd_true, Bool.and_self, Int.toNat_natCast, bind_id, room_t]
  rw [show (0 : Int) = ((0 : Nat) : Int) from rfl, toL2_eq (p := some) (f := id) N c 0 _ (fun _ _ => rfl) (by omega) (by omega) (by omega) (by omega) (by simp)]
  simp
theorem toLink_eq {N : Nat} (hN : 18446744073709551616 ≤ N) (c : List UInt8 × Int × Int × List Bool) (h : bdLink 1000000000 c) : g_laws_toLink N c = some c := by
  unfold g_laws_toLink
  simp only [toBoolS_eq hN c.2.2.2 h.2, Option.bind_some]
theorem szBoolS_eq {N : Nat} (hN : 18446744073709551616 ≤ N) (c : List Bool) (left : Int) (h0 : 0 ≤ left) (hl : left ≤ 1048576) (h : bdBoolS 9223372036854775807 c) : ∃ r : Int, g_laws_szBoolS N c left = some r ∧ (0 ≤ r → r ≤ left ∧ bdBoolS 1048576 c) := by
  have hh : c.length ≤ 9223372036854775807 := h
  unfold g_laws_szBoolS
  by_cases q : left - (c.length : Int) < 0
  · exact ⟨-1, by simp (disch := omega) only [dec_t, cond_true, wi_of], fun h => absurd h (by omega)⟩
  · exact ⟨left - (c.length : Int), by simp (disch := omega) only [dec_f, cond_false, wi_of], fun _ => ⟨by omega, by show c.length ≤ 1048576; omega⟩⟩
theorem szLink_eq {N : Nat} (hN : 18446744073709551616 ≤ N) (c : List UInt8 × Int × Int × List Bool) (left : Int) (h0 : 0 ≤ left) (hl : left ≤ 1048576) (h : bdLink 9223372036854775807 c) : ∃ r : Int, g_laws_szLink N c left = some r ∧ (0 ≤ r → r ≤ left ∧ bdLink 1048576 c) := by
  unfold g_laws_szLink
  have b0 : c.1.length ≤ 9223372036854775807 := h.1
  by_cases q0 : left - (c.1.length : Int) < 0
  · exact ⟨-1, by simp (disch := omega) only [dec_t, cond_true, wi_of], fun h => absurd h (by omega)⟩
  obtain ⟨r1, e1, k1⟩ := szBoolS_eq hN c.2.2.2 (left - (c.1.length : Int)) (by omega) (by omega) h.2
  by_cases q1 : r1 < 0
  · exact ⟨-1, by simp (disch := omega) only [dec_t, dec_f, cond_true, cond_false, Option.bind_some, wi_of, e1], fun h => absurd h (by omega)⟩
  obtain ⟨ka1, kb1⟩ := k1 (by omega)
  exact ⟨r1, by simp (disch := omega) only [dec_f, cond_false, Option.bind_some, wi_of, e1], fun _ => ⟨by omega, ⟨by omega, kb1⟩⟩⟩
theorem eqBoolS_l (N n : Nat) (c d : List Bool) (k : Int) : g_laws_eqBoolS.l4 N n c d k = eqL (fun x y => some (decide (x = y))) n c d k := by
  induction n generalizing k with
  | zero => rfl
  | succ n ih => simp only [g_laws_eqBoolS.l4, eqL, ih, beq_dec, Option.bind_some]
theorem eqBoolS_eq {N : Nat} (hN : 18446744073709551616 ≤ N) (x y : List Bool) (h : bdBoolS 1000000000 x) : g_laws_eqBoolS N x y = some (decide (x = y)) := by
  have hl : x.length ≤ 1000000000 := h
  unfold g_laws_eqBoolS
  simp only [eqBoolS_l]
  exact eqS_eq x y (fun _ _ _ => rfl) (by omega) (by omega)
theorem eqLink_eq {N : Nat} (hN : 18446744073709551616 ≤ N) (x y : List UInt8 × Int × Int × List Bool) (h : bdLink 1000000000 x) : g_laws_eqLink N x y = some (decide (x = y)) := by
  obtain ⟨x0, x1, x2, x3⟩ := x
  obtain ⟨y0, y1, y2, y3⟩ := y
  simp only [g_laws_eqLink, eqBoolS_eq hN x3 y3 h.2, bne_dec, beq_dec, Option.bind_some, Prod.mk.injEq]
  by_cases h0 : x0 = y0 <;> by_cases h1 : x1 = y1 <;> by_cases h2 : x2 = y2 <;> by_cases h3 : x3 = y3 <;> simp only [h0, h1, h2, h3, decide_true, decide_false, Bool.not_true, Bool.not_false, cond_true, cond_false, and_true, and_false, and_self]
def mkBoolS (N : Nat) : Nat → List Bool → List Bool
  | _, [] => []
  | m, _ :: es => (((m : Nat) : Int).tmod 3 == 0) :: mkBoolS N (m + 1) es
theorem markBoolS_l {N : Nat} (hN : 18446744073709551616 ≤ N) : ∀ (n m k : Nat) (done rest : List Bool), done.length = k → rest.length < n → k + rest.length ≤ 140737488355328 → m + 1 * rest.length ≤ 9000000000000000000 →
    g_laws_markBoolS__ib.l2 N n (m : Int) (k : Int) (done ++ rest) = some (((m + 1 * rest.length : Nat) : Int), done ++ mkBoolS N m rest)
  | 0, _, _, _, _, _, h, _, _ => by omega
  | n + 1, m, k, done, [], hk, hn, hl, hm => by
    unfold g_laws_markBoolS__ib.l2
    subst hk
    simp (disch := omega) only [dec_t, dec_f, cond_false, gd_true, Int.toNat_natCast, bind_id, nc1, wi_of, List.length_nil, List.append_nil, mkBoolS, Nat.mul_zero, Nat.add_zero]
  | n + 1, m, k, done, e :: es, hk, hn, hl, hm => by
    unfold g_laws_markBoolS__ib.l2
    simp only [List.length_cons] at hn hl hm
    subst hk
    simp (disch := omega) only [dec_t, cond_true, gd_true, Int.toNat_natCast, Option.bind_some, bind_id, nc1, wi_of, List.length_append, List.length_cons, mid_get, mid_set, mkBoolS]
    rw [List.append_cons, markBoolS_l hN n (m + 1) (done.length + 1) _ es (by simp) (by omega) (by omega) (by omega)]
    simp only [List.append_assoc, List.singleton_append, Option.some.injEq, Prod.mk.injEq, and_true]
    omega
theorem heldBoolS_l {N : Nat} (hN : 18446744073709551616 ≤ N) : ∀ (n m k : Nat) (done rest : List Bool), done.length = k → rest.length < n → k + rest.length ≤ 140737488355328 → m + 1 * rest.length ≤ 9000000000000000000 →
    g_laws_heldBoolS.l2 N n (done ++ mkBoolS N m rest) (m : Int) (k : Int) = some (.inr ((m + 1 * rest.length : Nat) : Int))
  | 0, _, _, _, _, _, h, _, _ => by omega
  | n + 1, m, k, done, [], hk, hn, hl, hm => by
    unfold g_laws_heldBoolS.l2
    subst hk
    simp (disch := omega) only [dec_t, dec_f, cond_false, gd_true, Int.toNat_natCast, bind_id, nc1, wi_of, List.length_nil, List.append_nil, mkBoolS, Nat.mul_zero, Nat.add_zero]
  | n + 1, m, k, done, e :: es, hk, hn, hl, hm => by
    unfold g_laws_heldBoolS.l2
    simp only [List.length_cons] at hn hl hm
    subst hk
    simp (disch := omega) only [dec_t, cond_true, cond_false, gd_true, Bool.not_true, Int.toNat_natCast, Option.bind_some, bind_id, nc1, wi_of, List.length_append, List.length_cons, mid_get, mkBoolS, beq_self_eq_true]
    rw [List.append_cons, heldBoolS_l hN n (m + 1) (done.length + 1) _ es (by simp) (by omega) (by omega) (by omega)]
    congr 3
    omega
theorem BoolS_held {N : Nat} (hN : 18446744073709551616 ≤ N) (c : List Bool) (m : Nat) (hm : m + 1000000000 ≤ 1000000000000000000) (h : bdBoolS 1000000000 c) : ∃ o : List Bool, ∃ k : Nat, g_laws_markBoolS__ib N c (m : Int) = some (o, ((k : Nat) : Int)) ∧ m ≤ k ∧ k ≤ m + 1000000000 ∧ g_laws_heldBoolS N o (m : Int) = some (k : Int) := by
  have hl : c.length ≤ 1000000000 := h
  have e1 := markBoolS_l hN N m 0 [] c rfl (by omega) (by omega) (by omega)
  have e2 := heldBoolS_l hN N m 0 [] c rfl (by omega) (by omega) (by omega)
  simp only [List.nil_append, Int.natCast_zero] at e1 e2
  refine ⟨mkBoolS N m c, m + 1 * c.length, ?_, by omega, by omega, ?_⟩
  · unfold g_laws_markBoolS__ib
    rw [e1]; rfl
  · unfold g_laws_heldBoolS
    rw [e2]; rfl
theorem Link_held {N : Nat} (hN : 18446744073709551616 ≤ N) (c : List UInt8 × Int × Int × List Bool) (m : Nat) (hm : m + 1000000000 ≤ 1000000000000000000) (h : bdLink 1000000000 c) : ∃ (o3_0 : List Bool), ∃ k : Nat, g_laws_markLink__ib N c (m : Int) = some (o3_0, ((k : Nat) : Int)) ∧ m ≤ k ∧ k ≤ m + 1000000000 ∧ g_laws_heldLink N (c.1, c.2.1, c.2.2.1, o3_0) (m : Int) = some (k : Int) := by
  obtain ⟨o3_0, k3, e3, l3, u3, f3⟩ := BoolS_held hN c.2.2.2 m (by omega) h.2
  refine ⟨o3_0, k3, ?_, by omega, by omega, ?_⟩
  · unfold g_laws_markLink__ib
    simp (disch := omega) only [bind_id, e3]
  · unfold g_laws_heldLink
    simp (disch := omega) only [dec_f, cond_false, Option.bind_some, f3]
theorem BoolS_marked {N : Nat} (hN : 18446744073709551616 ≤ N) (c : List Bool) (m : Nat) (hm : m + 1000000000 ≤ 1000000000000000000) (h : bdBoolS 1000000000 c) : ∃ o : List Bool, ∃ k : Nat, g_laws_markBoolS__ib N c (m : Int) = some (o, ((k : Nat) : Int)) ∧ m ≤ k ∧ k ≤ m + 1000000000 := by
  have hl : c.length ≤ 1000000000 := h
  have e1 := markBoolS_l hN N m 0 [] c rfl (by omega) (by omega) (by omega)
  simp only [List.nil_append, Int.natCast_zero] at e1
  refine ⟨mkBoolS N m c, m + 1 * c.length, ?_, by omega, by omega⟩
  unfold g_laws_markBoolS__ib
  rw [e1]; rfl
theorem Link_marked {N : Nat} (hN : 18446744073709551616 ≤ N) (c : List UInt8 × Int × Int × List Bool) (m : Nat) (hm : m + 1000000000 ≤ 1000000000000000000) (h : bdLink 1000000000 c) : ∃ (o3_0 : List Bool), ∃ k : Nat, g_laws_markLink__ib N c (m : Int) = some (o3_0, ((k : Nat) : Int)) ∧ m ≤ k ∧ k ≤ m + 1000000000 := by
  obtain ⟨o3_0, k3, e3, l3, u3⟩ := BoolS_marked hN c.2.2.2 m (by omega) h.2
  refine ⟨o3_0, k3, ?_, by omega, by omega⟩
  unfold g_laws_markLink__ib
  simp (disch := omega) only [bind_id, e3]
abbrev bdPacket (n : Nat) (x : Int × List UInt8 × List UInt8) : Prop := (x.2.1).length ≤ n ∧ (x.2.2).length ≤ n
theorem bdPacket_mono {n m : Nat} (hm : n ≤ m) {x : Int × List UInt8 × List UInt8} (h : bdPacket n x) : bdPacket m x := ⟨Nat.le_trans h.1 hm, Nat.le_trans h.2 hm⟩
theorem toPacket_eq {N : Nat} (hN : 18446744073709551616 ≤ N) (c : Int × List UInt8 × List UInt8) (h : bdPacket 1000000000 c) : g_laws_toPacket N c = some c := rfl
theorem szPacket_eq {N : Nat} (hN : 18446744073709551616 ≤ N) (c : Int × List UInt8 × List UInt8) (left : Int) (h0 : 0 ≤ left) (hl : left ≤ 1048576) (h : bdPacket 9223372036854775807 c) : ∃ r : Int, g_laws_szPacket N c left = some r ∧ (0 ≤ r → r ≤ left ∧ bdPacket 1048576 c) := by
  unfold g_laws_szPacket
  have b0 : c.2.1.length ≤ 9223372036854775807 := h.1
  by_cases q0 : left - (c.2.1.length : Int) < 0
  · exact ⟨-1, by simp (disch := omega) only [dec_t, cond_true, wi_of], fun h => absurd h (by omega)⟩
  have b1 : c.2.2.length ≤ 9223372036854775807 := h.2
  by_cases q1 : left - (c.2.1.length : Int) - (c.2.2.length : Int) < 0
  · exact ⟨-1, by simp (disch := omega) only [dec_t, dec_f, cond_true, cond_false, wi_of], fun h => absurd h (by omega)⟩
  exact ⟨left - (c.2.1.length : Int) - (c.2.2.length : Int), by simp (disch := omega) only [dec_f, cond_false, wi_of], fun _ => ⟨by omega, ⟨by omega, by omega⟩⟩⟩
end Go.Vm
/- The law of taking packets, in plain words. -/
set_option linter.unusedVariables false
set_option maxRecDepth 100000
namespace Go.Vm
theorem lkTake_bd (l : LinkT) (p : PktT) (h : bdLink 1048576 l) : bdLink 1048576 (lkTake l p).1 := by
  have hs := shiftW_length (p.1 - l.2.2.1).toNat l.2.2.2
  unfold lkTake
  split
  · split
    · split
      · split
        · exact h
        · split
          · split
            · exact h
            · exact ⟨h.1, Nat.le_trans (Nat.le_of_eq (List.length_set ..)) h.2⟩
          · exact ⟨h.1, Nat.le_trans (Nat.le_of_eq (List.length_set ..)) (by omega)⟩
      · exact h
    · exact h
  · exact ⟨by simp, by simp⟩
theorem FnExactLinkTake_true {N : Nat} (hN : 18446744073709551616 ≤ N) (l : LinkT) (p : PktT) (h1 : bdLink 9223372036854775807 l) (h2 : bdPacket 9223372036854775807 p) : g_laws_FnExactLinkTake N l p = some true := by
  unfold g_laws_FnExactLinkTake
  obtain ⟨r1, e1, k1⟩ := szLink_eq hN l 1048576 (by omega) (by omega) h1
  by_cases q1 : r1 < 0
  · simp (disch := omega) only [dec_t, cond_true, Option.bind_some, e1]
  obtain ⟨k1a, k1b⟩ := k1 (by omega)
  obtain ⟨r2, e2, k2⟩ := szPacket_eq hN p r1 (by omega) (by omega) h2
  by_cases q2 : r2 < 0
  · simp (disch := omega) only [dec_t, dec_f, cond_true, cond_false, Option.bind_some, e1, e2]
  obtain ⟨k2a, k2b⟩ := k2 (by omega)
  have t1 := toLink_eq hN l (bdLink_mono (by omega) k1b)
  have t2 := toPacket_eq hN p (bdPacket_mono (by omega) k2b)
  have f1 := iTake hN l p (by have := k1b.1; omega) (by have : l.2.2.2.length ≤ 1048576 := k1b.2; omega) (by have := k2b.1; omega)
  have f2 := sTake hN l p (by have := k1b.1; omega) (by have : l.2.2.2.length ≤ 1048576 := k1b.2; omega) (by have := k2b.1; omega)
  have hg := bdLink_mono (show 1048576 ≤ 1000000000 by omega) (lkTake_bd l p k1b)
  have g1 := eqLink_eq hN (lkTake l p).1 (lkTake l p).1 hg
  have g2 := eqLink_eq hN l l (bdLink_mono (by omega) k1b)
  obtain ⟨o1, m1, n1, n2, _⟩ := Link_marked hN l 1 (by omega) (bdLink_mono (by omega) k1b)
  obtain ⟨o2, m2, n3, n4, _, n5⟩ := Link_held hN (lkTake l p).1 1 (by omega) hg
  rw [show ((1 : Nat) : Int) = 1 from rfl] at n1 n3 n5
  simp (disch := omega) only [dec_f, decide_true, cond_false, Bool.not_true, Option.bind_some, bne_fi, e1, e2, t1, t2, f1, f2, g1, g2, n1, n3, n5]
theorem law_FnExactLinkTake (l : LinkT) (p : PktT) (h1 : InR (.st (.pair .str (.pair (.int .i64) (.pair (.int .i64) (.sl .bool))))) l) (h2 : InR (.st (.pair (.int .i64) (.pair .str .str))) p) : ∃ N, g_laws_FnExactLinkTake N l p = some true :=
  ⟨18446744073709551616, FnExactLinkTake_true (Nat.le_refl _) l p ⟨h1.1, h1.2.2.2.1⟩ ⟨h2.2.1, h2.2.2⟩⟩
end Go.Vm

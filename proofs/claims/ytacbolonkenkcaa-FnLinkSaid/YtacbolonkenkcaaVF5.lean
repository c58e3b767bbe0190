/- A part of the proof: an abstract machine, mirrors and their laws, one text behind the other. -/
import Derived.Test.YtacbolonkenkcaaVF4
/- SHA-256 and HMAC: what both programs' hashes are. -/
set_option linter.unusedVariables false
set_option maxRecDepth 100000
namespace Go.Vm
def padN (n : Nat) : Nat := (120 - n % 64) % 64
theorem hash_l3 (N : Nat) (c0 : List UInt8) : ∀ (n : Nat) (m : List UInt8), padN m.length < n → m.length + padN m.length ≤ 140737488355000 →
    g_impl_hash.l3 N n c0 m = some (m ++ List.replicate (padN m.length) 0)
  | 0, _, h, _ => by omega
  | n + 1, m, h, hm => by
    unfold g_impl_hash.l3
    have e : (m.length : Int).tmod 64 = ((m.length % 64 : Nat) : Int) := rfl
    rw [e]
    by_cases h56 : m.length % 64 = 56
    · rw [show padN m.length = 0 by unfold padN; omega]
      simp (disch := omega) only [cond_false, gd_true, bind_id, room_t, bne_fi, List.replicate_zero, List.append_nil]
    · have e2 : padN m.length = padN (m ++ [(0 : UInt8)]).length + 1 := by simp only [List.length_append, List.length_cons, List.length_nil]; unfold padN; omega
      simp (disch := omega) only [cond_true, gd_true, bind_id, room_t, bne_ti]
      rw [hash_l3 N c0 n _ (by omega) (by rw [List.length_append, List.length_cons, List.length_nil] at e2 ⊢; omega), e2, List.replicate_succ, List.append_assoc]
      rfl
theorem sHash_l3 (N : Nat) (c0 : List UInt8) (hh : List Int) : ∀ (n : Nat) (m : List UInt8), padN m.length < n → m.length + padN m.length ≤ 140737488355000 →
    g_spec_l03Hash.l3 N n c0 hh m = some (hh, m ++ List.replicate (padN m.length) 0)
  | 0, _, h, _ => by omega
  | n + 1, m, h, hm => by
    unfold g_spec_l03Hash.l3
    have e : (m.length : Int).tmod 64 = ((m.length % 64 : Nat) : Int) := rfl
    rw [e]
    by_cases h56 : m.length % 64 = 56
    · rw [show padN m.length = 0 by unfold padN; omega]
      simp (disch := omega) only [cond_false, gd_true, bind_id, room_t, bne_fi, List.replicate_zero, List.append_nil]
    · have e2 : padN m.length = padN (m ++ [(0 : UInt8)]).length + 1 := by simp only [List.length_append, List.length_cons, List.length_nil]; unfold padN; omega
      simp (disch := omega) only [cond_true, gd_true, bind_id, room_t, bne_ti]
      rw [sHash_l3 N c0 hh n _ (by omega) (by rw [List.length_append, List.length_cons, List.length_nil] at e2 ⊢; omega), e2, List.replicate_succ, List.append_assoc]
      rfl
theorem shr_shr (x : Int) (a b : Nat) : shr (shr x a) b = shr x (a + b) := by
  rw [shr_eq, shr_eq, shr_eq, Int.pow_add]
  exact Int.ediv_ediv_of_nonneg (Int.pow_nonneg (by decide))
theorem bytesN_succ : ∀ (s : Nat) (x : Int), bytesN (s + 1) x = wb (shr x (8 * s)) :: bytesN s x
  | 0, x => by
    simp only [bytesN, List.nil_append, Nat.mul_zero, shr_eq]
    simp
  | s + 1, x => by
    rw [bytesN, bytesN_succ s, shr_shr, show 8 + 8 * s = 8 * (s + 1) by omega]
    rfl
theorem sHash_l6 (N : Nat) (c0 : List UInt8) (hh : List Int) (hc : c0.length ≤ 140737488350000) : ∀ (n s : Nat) (m : List UInt8), s < n → s ≤ 8 → m.length + s ≤ 140737488355000 →
    g_spec_l03Hash.l6 N n c0 ((s : Int) - 1) hh m = some (hh, m ++ bytesN s (8 * (c0.length : Int)))
  | 0, _, _, h, _, _ => by omega
  | n + 1, 0, m, h, _, hm => by
    unfold g_spec_l03Hash.l6
    simp (disch := omega) only [dec_f, cond_false, gd_true, bind_id, wi_of, room_t, List.length_cons, List.length_nil, bytesN, List.append_nil]
  | n + 1, s + 1, m, h, h8, hm => by
    unfold g_spec_l03Hash.l6
    have e : (((s + 1 : Nat) : Int) - 1) = (s : Int) := by omega
    have e1 : (8 * (s : Int)).toNat = 8 * s := by omega
    rw [e]
    simp (disch := omega) only [dec_t, dec_f, cond_true, cond_false, gd_true, bind_id, wi_of, room_t, List.length_cons, List.length_nil, w64_of, e1, Nat.min_eq_left]
    rw [sHash_l6 N c0 hh hc n s _ (by omega) (by omega) (by simp only [List.length_append, List.length_cons, List.length_nil]; omega), bytesN_succ, List.append_assoc]
    rfl
/-- Blocks, one after another. -/
def blks (k : List Int) : Nat → List UInt8 → List Int → List Int
  | 0, _, h => h
  | j + 1, xs, h => blks k j (xs.drop 64) (blockF k h (xs.take 64))
theorem blks_length (k : List Int) : ∀ (j : Nat) (xs : List UInt8) {h : List Int}, h.length = 8 → (blks k j xs h).length = 8
  | 0, _, _, h => h
  | j + 1, xs, _, h => blks_length k j _ (blockF_length _ _ h)
theorem blks_words (k : List Int) : ∀ (j : Nat) (xs : List UInt8) {h : List Int}, Words h → Words (blks k j xs h)
  | 0, _, _, h => h
  | j + 1, xs, _, h => blks_words k j _ (blockF_words _ _ h)
theorem hash_g9 {N : Nat} (hN : 18446744073709551616 ≤ N) (k : List Int) (hk : k.length = 64) : ∀ (j f : Nat) (xs : List UInt8) (h : List Int), xs.length = 64 * j → j ≤ f → h.length = 8 →
    g_impl_hash.g9 N (chunksF 64 f xs) h k = some (blks k j xs h)
  | 0, f, xs, h, hx, _, hh => by
    have : xs = [] := List.length_eq_zero_iff.1 (by omega)
    subst this
    cases f <;> simp [chunksF, g_impl_hash.g9, blks]
  | j + 1, 0, xs, h, hx, hf, hh => by omega
  | j + 1, f + 1, xs, h, hx, hf, hh => by
    have e : xs.isEmpty = false := by cases xs with | nil => simp at hx | cons _ _ => rfl
    have el : (xs.take 64).length = 64 := by rw [List.length_take]; omega
    rw [chunksF, e, cond_false, g_impl_hash.g9, iSched hN _ el, Option.bind_some, iTurn hN k h hk hh, Option.bind_some, hash_g9 hN k hk j f _ _ (by rw [List.length_drop]; omega) (by omega) (blockF_length _ _ hh)]
    rfl
theorem sHash_l11 {N : Nat} (hN : 18446744073709551616 ≤ N) (k : List Int) (hk : k.length = 64) (all : List UInt8) (ha : all.length ≤ 140737488355328) : ∀ (j n o : Nat) (h : List Int), all.length = o + 64 * j → j < n → h.length = 8 →
    g_spec_l03Hash.l11 N n (o : Int) h all k = some (blks k j (all.drop o) h)
  | 0, 0, o, h, hx, hn, hh => by omega
  | 0, n + 1, o, h, hx, _, hh => by
    unfold g_spec_l03Hash.l11
    simp (disch := omega) only [dec_t, dec_f, cond_false, gd_true, Bool.true_and, Int.toNat_natCast, bind_id, wi_of, blks]
  | j + 1, 0, o, h, hx, hn, hh => by omega
  | j + 1, n + 1, o, h, hx, hn, hh => by
    unfold g_spec_l03Hash.l11
    have e1 : ((o : Int) + 64) = ((o + 64 : Nat) : Int) := rfl
    have e2 : o + 64 - o = 64 := by omega
    have el : ((all.drop o).take 64).length = 64 := by rw [List.length_take, List.length_drop]; omega
    simp (disch := omega) only [dec_t, cond_true, gd_true, Bool.and_self, Int.toNat_natCast, Option.bind_some, bind_id, wi_of, e1, e2, sBlock hN k h hk hh _ el]
    rw [sHash_l11 hN k hk all ha j n (o + 64) _ (by omega) (by omega) (blockF_length _ _ hh), blks, List.drop_drop]
/-- The words' bytes. -/
def outF (h : List Int) (i : Nat) (l : List UInt8) : List UInt8 := l ++ bytesN 4 (h[i]?.getD 0)
theorem outs_length (h : List Int) : ∀ (n i : Nat) (l : List UInt8), (itF (outF h) i n l).length = l.length + 4 * n
  | 0, _, l => by simp [itF]
  | n + 1, i, l => by rw [itF, outs_length h n (i + 1), outF, List.length_append, bytesN_length]; omega
theorem hash_l13 {N : Nat} (hN : 18446744073709551616 ≤ N) (h : List Int) (hh : h.length = 8) (hw : Words h) : ∀ (n i : Nat) (l : List UInt8), 8 ≤ i + n - 1 → 0 < n → i ≤ 8 → l.length ≤ 1000 - 4 * (8 - i) →
    g_impl_hash.l13 N n h l (i : Int) = some (itF (outF h) i (8 - i) l)
  | 0, _, _, _, hn, _, _ => by omega
  | n + 1, i, l, hn, _, hi, hl => by
    unfold g_impl_hash.l13
    by_cases h8 : i < 8
    · obtain ⟨q1, q2⟩ := hw h[i] (List.getElem_mem (by omega))
      have hr := hash_l13 hN h hh hw n (i + 1) (outF h i l) (by omega) (by omega) (by omega) (by rw [outF, List.length_append, bytesN_length]; omega)
      have e := bytesOf_eq hN h[i] 4 (by omega)
      rw [show ((4 : Nat) : Int) = 4 from rfl] at e
      rw [itF_succ _ h8]
      simp only [outF, get_t (show i < h.length by omega), Option.getD_some] at hr ⊢
      simp (disch := omega) only [dec_t, cond_true, gd_true, Int.toNat_natCast, get_t, Option.bind_some, bind_id, nc1, wi_of, e, bytesN_length]
      exact hr
    · rw [itF_end _ h8]
      simp (disch := omega) only [dec_t, dec_f, cond_false, gd_true, Int.toNat_natCast, bind_id, nc1, wi_of]
theorem sHash_l16 {N : Nat} (hN : 18446744073709551616 ≤ N) (h : List Int) (hh : h.length = 8) : ∀ (n i : Nat) (l : List UInt8), 8 ≤ i + n - 1 → 0 < n → i ≤ 8 → l.length ≤ 1000 - 4 * (8 - i) →
    g_spec_l03Hash.l16 N n (i : Int) h l = some (itF (outF h) i (8 - i) l)
  | 0, _, _, hn, _, _, _ => by omega
  | n + 1, i, l, hn, _, hi, hl => by
    unfold g_spec_l03Hash.l16
    by_cases h8 : i < 8
    · have hr := sHash_l16 hN h hh n (i + 1) (outF h i l) (by omega) (by omega) (by omega) (by rw [outF, List.length_append, bytesN_length]; omega)
      rw [itF_succ _ h8]
      simp only [outF, get_t (show i < h.length by omega), Option.getD_some, bytesN4] at hr ⊢
      simp (disch := omega) only [dec_t, cond_true, gd_true, Int.toNat_natCast, get_t, Option.bind_some, bind_id, nc1, wi_of, room_t, List.length_cons, List.length_nil]
      exact hr
    · rw [itF_end _ h8]
      simp (disch := omega) only [dec_t, dec_f, cond_false, gd_true, Int.toNat_natCast, bind_id, nc1, wi_of, room_t, List.length_cons, List.length_nil]
/-- What both programs' tables are. -/
def shaK : List Int := (g_impl_rounds 0 ()).getD []
theorem iRounds (N : Nat) : g_impl_rounds N () = some shaK := rfl
theorem sConsts (N : Nat) : g_spec_l03Consts N () = some shaK := rfl
theorem shaK_length : shaK.length = 64 := rfl
def sha0 : List Int := [1779033703, 3144134277, 1013904242, 2773480762, 1359893119, 2600822924, 528734635, 1541459225]
theorem sha0_words : Words sha0 := by unfold Words sha0; decide
/-- What is hashed, filled up. -/
def shaPad (b : List UInt8) : List UInt8 := (b ++ [128]) ++ List.replicate (padN (b ++ [(128 : UInt8)]).length) 0 ++ bytesN 8 (8 * (b.length : Int))
def sha (b : List UInt8) : List UInt8 := itF (outF (blks shaK ((shaPad b).length / 64) (shaPad b) sha0)) 0 8 []
theorem sha_length (b : List UInt8) : (sha b).length = 32 := outs_length _ 8 0 []
theorem shaPad_length (b : List UInt8) : (shaPad b).length = 64 * ((shaPad b).length / 64) ∧ (shaPad b).length ≤ b.length + 73 := by
  have : (shaPad b).length = b.length + 1 + padN (b.length + 1) + 8 := by
    simp only [shaPad, List.length_append, List.length_replicate, bytesN_length, List.length_cons, List.length_nil]
  rw [this]; unfold padN; omega
theorem iHash {N : Nat} (hN : 18446744073709551616 ≤ N) (b : List UInt8) (hb : b.length ≤ 70368744177664) : g_impl_hash N b = some (sha b) := by
  obtain ⟨p1, p2⟩ := shaPad_length b
  have hl : (b ++ [(128 : UInt8)]).length = b.length + 1 := by simp
  have e1 := hash_l3 N b N (b ++ [128]) (by unfold padN; omega) (by rw [hl]; unfold padN; omega)
  have e2 := bytesOf_eq hN (8 * (b.length : Int)) 8 (by omega)
  rw [show ((8 : Nat) : Int) = 8 from rfl] at e2
  have e3 := hash_g9 hN shaK shaK_length _ (shaPad b).length (shaPad b) sha0 p1 (by omega) rfl
  have e4 := hash_l13 hN _ (blks_length shaK ((shaPad b).length / 64) (shaPad b) (h := sha0) rfl) (blks_words shaK ((shaPad b).length / 64) (shaPad b) sha0_words) N 0 [] (by omega) (by omega) (by omega) (by simp)
  rw [Int.natCast_zero] at e4
  have e5 : ((b ++ [128]) ++ List.replicate (padN (b ++ [(128 : UInt8)]).length) 0 ++ bytesN 8 (8 * (b.length : Int))) = shaPad b := rfl
  have hp : ((b ++ [(128 : UInt8)]) ++ List.replicate (padN (b ++ [(128 : UInt8)]).length) 0).length + (bytesN 8 (8 * (b.length : Int))).length = (shaPad b).length := by rw [← List.length_append, e5]
  unfold g_impl_hash
  rw [e1, wi_of (by omega) (by omega), e2, room_t (by omega)]
  simp only [gd_true, Option.bind_some, iRounds, hp, e5]
  rw [room_t (by omega), dec_t (by omega)]
  simp only [gd_true]
  rw [show (64 : Int).toNat = 64 from rfl, chunks, show ([1779033703, 3144134277, 1013904242, 2773480762, 1359893119, 2600822924, 528734635, 1541459225] : List Int) = sha0 from rfl, e3]
  simp only [Option.bind_some, e4]
  rfl
theorem sHash {N : Nat} (hN : 18446744073709551616 ≤ N) (b : List UInt8) (hb : b.length ≤ 70368744177664) : g_spec_l03Hash N b = some (sha b) := by
  obtain ⟨p1, p2⟩ := shaPad_length b
  have hl : (b ++ [(128 : UInt8)]).length = b.length + 1 := by simp
  have e1 := sHash_l3 N b sha0 N (b ++ [128]) (by unfold padN; omega) (by rw [hl]; unfold padN; omega)
  have hp : ((b ++ [(128 : UInt8)]) ++ List.replicate (padN (b ++ [(128 : UInt8)]).length) 0).length + 8 = (shaPad b).length := by
    simp only [shaPad, List.length_append, bytesN_length]
  have e2 := sHash_l6 N b sha0 (by omega) N 8 ((b ++ [(128 : UInt8)]) ++ List.replicate (padN (b ++ [(128 : UInt8)]).length) 0) (by omega) (by omega) (by omega)
  rw [show ((8 : Nat) : Int) - 1 = 7 from rfl] at e2
  have e5 : ((b ++ [128]) ++ List.replicate (padN (b ++ [(128 : UInt8)]).length) 0 ++ bytesN 8 (8 * (b.length : Int))) = shaPad b := rfl
  have e3 := sHash_l11 hN shaK shaK_length (shaPad b) (by omega) ((shaPad b).length / 64) N 0 sha0 (by omega) (by omega) rfl
  have e4 := sHash_l16 hN _ (blks_length shaK ((shaPad b).length / 64) (shaPad b) (h := sha0) rfl) N 0 [] (by omega) (by omega) (by omega) (by simp)
  rw [Int.natCast_zero] at e3 e4
  rw [e5] at e2
  unfold g_spec_l03Hash
  rw [room_t (by omega), room_t (by simp only [List.nil_append]; omega), show ([1779033703, 3144134277, 1013904242, 2773480762, 1359893119, 2600822924, 528734635, 1541459225] : List Int) = sha0 from rfl]
  simp only [gd_true, List.nil_append, e1, Option.bind_some]
  rw [e2]
  simp only [Option.bind_some, sConsts]
  rw [e3]
  simp only [Option.bind_some, List.drop_zero, e4]
  rfl
end Go.Vm
/- HMAC. -/
set_option linter.unusedVariables false
set_option maxRecDepth 100000
namespace Go.Vm
def mskAt (m : UInt8) (c : UInt8) : UInt8 := wb (xorB 8 (c.toNat : Int) (m.toNat : Int))
/-- A key of 64 bytes with a mask on. -/
def mskd (m : UInt8) (k : List UInt8) : List UInt8 := (k ++ List.replicate (64 - k.length) 0).map (mskAt m)
theorem mskd_length (m : UInt8) {k : List UInt8} (h : k.length ≤ 64) : (mskd m k).length = 64 := by simp [mskd]; omega
theorem set_map {α : Type} (f : α → α) {l : List α} {i : Nat} (h : i < l.length) : ((l.take i).map f ++ l.drop i).set i (f l[i]) = (l.take (i + 1)).map f ++ l.drop (i + 1) := by
  have e : ((l.take i).map f).length = i := by rw [List.length_map, List.length_take]; omega
  have := mid_set ((l.take i).map f) l[i] (f l[i]) (l.drop (i + 1))
  rw [e] at this
  rw [drop_get h, this, List.take_add_one, get_t h, List.map_append, List.append_assoc]
  rfl
theorem get_map {α : Type} (f : α → α) {l : List α} {i : Nat} (h : i < l.length) : ((l.take i).map f ++ l.drop i)[i]? = some l[i] := by
  rw [List.getElem?_append_right (by simp; omega), drop_get h]
  simp [Nat.min_eq_left (Nat.le_of_lt h)]
theorem masked_l4 (N : Nat) (m : UInt8) (v : List UInt8) (hv : v.length ≤ 1000000) : ∀ (n i : Nat), v.length ≤ i + n - 1 → 0 < n → i ≤ v.length →
    g_impl_masked.l4 N n m (v.length : Int) (i : Int) ((v.take i).map (mskAt m) ++ v.drop i) = some (v.map (mskAt m))
  | 0, _, _, h, _ => by omega
  | n + 1, i, hn, _, hi => by
    unfold g_impl_masked.l4
    by_cases h : i < v.length
    · have hl : ((v.take i).map (mskAt m) ++ v.drop i).length = v.length := by simp; omega
      have hg := get_map (mskAt m) h
      have hr := masked_l4 N m v hv n (i + 1) (by omega) (by omega) (by omega)
      have hs := set_map (mskAt m) h
      simp only [mskAt] at hs hg hr hl ⊢
      simp (disch := omega) only [dec_t, cond_true, gd_true, Int.toNat_natCast, Option.bind_some, bind_id, nc1, wi_of, List.length_append, List.length_take, List.length_drop, List.length_map, hg, hs]
      exact hr
    · simp (disch := omega) only [dec_t, dec_f, cond_false, gd_true, Int.toNat_natCast, bind_id, nc1, wi_of, List.length_map, List.drop_of_length_le, List.append_nil, List.take_of_length_le]
theorem iMasked {N : Nat} (hN : 18446744073709551616 ≤ N) (k : List UInt8) (m : UInt8) (hk : k.length ≤ 64) : g_impl_masked N k m = some (mskd m k) := by
  have e : spliceL (List.replicate 64 (0 : UInt8)) k 0 (min k.length (List.replicate 64 (0 : Nat)).length) = k ++ List.replicate (64 - k.length) 0 := by
    unfold spliceL
    rw [List.length_replicate, Nat.min_eq_left hk, Nat.zero_add, List.take_zero, List.take_length, List.nil_append, List.drop_replicate]
  have hl : (k ++ List.replicate (64 - k.length) (0 : UInt8)).length = 64 := by simp; omega
  have := masked_l4 N m (k ++ List.replicate (64 - k.length) 0) (by omega) N 0 (by omega) (by omega) (by omega)
  simp only [List.take_zero, List.map_nil, List.nil_append, List.drop_zero, Int.natCast_zero] at this
  unfold g_impl_masked
  dsimp only
  rw [e, this]
  rfl
theorem sHmac_l6 (N : Nat) (c0 k : List UInt8) (hk : k.length ≤ 64) : ∀ (n i : Nat), 64 ≤ i + n - 1 → 0 < n → i ≤ 64 →
    g_spec_l03Hmac__ob.l6 N n c0 (i : Int) k ((mskd 54 k).take i ++ List.replicate (64 - i) 0) ((mskd 92 k).take i ++ List.replicate (64 - i) 0) = some (mskd 54 k, mskd 92 k)
  | 0, _, _, h, _ => by omega
  | n + 1, i, hn, _, hi => by
    unfold g_spec_l03Hmac__ob.l6
    have l1 := mskd_length 54 hk
    have l2 := mskd_length 92 hk
    by_cases h : i < 64
    · have hr := sHmac_l6 N c0 k hk n (i + 1) (by omega) (by omega) (by omega)
      have hl : ∀ m, ((mskd m k).take i ++ List.replicate (64 - i) (0 : UInt8)).length = 64 := fun m => by simp [mskd_length m hk]; omega
      have h1 := hl 54
      have h2 := hl 92
      have hs : ∀ m v, (mskd m k)[i]? = some v → ((mskd m k).take i ++ List.replicate (64 - i) (0 : UInt8)).set i v = (mskd m k).take (i + 1) ++ List.replicate (64 - (i + 1)) 0 := fun m v hv => by
        have := mskd_length m hk
        have e : ((mskd m k).take i).length = i := by rw [List.length_take]; omega
        have q := mid_set ((mskd m k).take i) 0 v (List.replicate (64 - (i + 1)) 0)
        rw [e] at q
        rw [show 64 - i = (64 - (i + 1)) + 1 by omega, List.replicate_succ, q, List.take_add_one, hv, List.append_assoc]
        rfl
      by_cases hik : i < k.length
      · have hm : ∀ m, (mskd m k)[i]? = some (mskAt m k[i]) := fun m => by
          unfold mskd
          rw [List.getElem?_map, List.getElem?_append_left hik, get_t hik]; rfl
        have hs1 := hs 54 _ (hm 54)
        have hs2 := hs 92 _ (hm 92)
        simp only [mskAt] at hs1 hs2
        rw [show ((54 : UInt8).toNat : Int) = 54 from rfl] at hs1
        rw [show ((92 : UInt8).toNat : Int) = 92 from rfl] at hs2
        simp (disch := omega) only [dec_t, cond_true, gd_true, Int.toNat_natCast, get_t, Option.bind_some, bind_id, nc1, wi_of, List.length_append, List.length_replicate, List.length_take, hs1, hs2]
        exact hr
      · have hm : ∀ m, (mskd m k)[i]? = some (mskAt m 0) := fun m => by
          unfold mskd
          rw [List.getElem?_map, List.getElem?_append_right (by omega), List.getElem?_replicate, if_pos (by omega)]; rfl
        have hs1 := hs 54 _ (hm 54)
        have hs2 := hs 92 _ (hm 92)
        rw [show mskAt 54 0 = 54 from by decide +kernel] at hs1
        rw [show mskAt 92 0 = 92 from by decide +kernel] at hs2
        simp (disch := omega) only [dec_t, dec_f, cond_true, cond_false, gd_true, Int.toNat_natCast, get_t, Option.bind_some, bind_id, nc1, wi_of, List.length_append, List.length_replicate, List.length_take, hs1, hs2]
        exact hr
    · obtain rfl : i = 64 := by omega
      simp (disch := omega) only [dec_t, dec_f, cond_false, gd_true, Int.toNat_natCast, bind_id, nc1, wi_of, Nat.sub_self, List.replicate_zero, List.append_nil, List.take_of_length_le]
def hkey (k : List UInt8) : List UInt8 := if k.length > 64 then sha k else k
theorem hkey_length (k : List UInt8) : (hkey k).length ≤ 64 := by
  unfold hkey; split
  · rw [sha_length]; omega
  · omega
def hmac (k b : List UInt8) : List UInt8 := sha (mskd 92 (hkey k) ++ sha (mskd 54 (hkey k) ++ b))
theorem hmac_length (k b : List UInt8) : (hmac k b).length = 32 := sha_length _
theorem iHmac {N : Nat} (hN : 18446744073709551616 ≤ N) (k b : List UInt8) (hk : k.length ≤ 70368744177000) (hb : b.length ≤ 70368744177000) : g_impl_hmac N k b = some (hmac k b) := by
  unfold g_impl_hmac
  have l1 := mskd_length 54 (hkey_length k)
  have l2 := mskd_length 92 (hkey_length k)
  have e1 := iMasked hN (hkey k) 92 (hkey_length k)
  have e2 := iMasked hN (hkey k) 54 (hkey_length k)
  have e3 := iHash hN (mskd 54 (hkey k) ++ b) (by rw [List.length_append]; omega)
  have e4 := iHash hN (mskd 92 (hkey k) ++ sha (mskd 54 (hkey k) ++ b)) (by rw [List.length_append, sha_length]; omega)
  have ls := sha_length (mskd 54 (hkey k) ++ b)
  by_cases h : k.length > 64
  · have ek : hkey k = sha k := if_pos h
    have e0 := iHash hN k (by omega)
    rw [ek] at e1 e2 e3 e4 l1 l2 ls
    simp (disch := omega) only [dec_t, cond_true, gd_true, Option.bind_some, bind_id, e0, e1, e2, e3, e4, hmac, ek]
  · have ek : hkey k = k := if_neg h
    rw [ek] at e1 e2 e3 e4 l1 l2 ls
    simp (disch := omega) only [dec_t, dec_f, cond_false, gd_true, Option.bind_some, bind_id, e1, e2, e3, e4, hmac, ek]
theorem sHmac {N : Nat} (hN : 18446744073709551616 ≤ N) (k b : List UInt8) (hk : k.length ≤ 70368744177000) (hb : b.length ≤ 70368744177000) : g_spec_l03Hmac__ob N k b = some (hmac k b) := by
  unfold g_spec_l03Hmac__ob
  have l1 := mskd_length 54 (hkey_length k)
  have l2 := mskd_length 92 (hkey_length k)
  have e1 := sHmac_l6 N b (hkey k) (hkey_length k) N 0 (by omega) (by omega) (by omega)
  have e3 := sHash hN (mskd 54 (hkey k) ++ b) (by rw [List.length_append]; omega)
  have e4 := sHash hN (mskd 92 (hkey k) ++ sha (mskd 54 (hkey k) ++ b)) (by rw [List.length_append, sha_length]; omega)
  have ls := sha_length (mskd 54 (hkey k) ++ b)
  simp only [List.take_zero, List.nil_append, Int.natCast_zero, Nat.sub_zero] at e1
  by_cases h : k.length > 64
  · have ek : hkey k = sha k := if_pos h
    have e0 := sHash hN k (by omega)
    rw [ek] at e1 e3 e4 l1 l2 ls
    simp (disch := omega) only [dec_t, cond_true, gd_true, Option.bind_some, bind_id, room_t, e0, e1, e3, e4, hmac, ek]
  · have ek : hkey k = k := if_neg h
    rw [ek] at e1 e3 e4 l1 l2 ls
    simp (disch := omega) only [dec_f, cond_false, gd_true, Option.bind_some, bind_id, room_t, e1, e3, e4, hmac, ek]
end Go.Vm
/- Links: what both programs' functions on links do. -/
set_option linter.unusedVariables false
set_option maxRecDepth 100000
namespace Go.Vm
abbrev LinkT := List UInt8 × Int × Int × List Bool
abbrev PktT := Int × List UInt8 × List UInt8
theorem iWithin (N : Nat) (a b c : Int) : g_impl_within N a b c = some (decide (b ≤ a) && decide (a ≤ c)) := by
  unfold g_impl_within
  by_cases h : b ≤ a
  · simp only [dec_t h, cond_true, Bool.true_and]
  · simp only [dec_f h, cond_false, Bool.false_and]
theorem sIn (N : Nat) (a b c : Int) : g_spec_l01In N a b c = some (decide (b ≤ a) && decide (a ≤ c)) := by
  unfold g_spec_l01In
  by_cases h : b ≤ a
  · simp only [dec_t h, ge_iff_le, cond_true, Bool.true_and]
  · simp only [dec_f h, ge_iff_le, cond_false, Bool.false_and]
theorem sFour (N : Nat) (x : Int) : g_spec_l02Four N x = some (bytesN 4 x) := by rw [bytesN4]; rfl
/-- A packet's tag. -/
def lkTag (key : List UInt8) (seq : Int) (body : List UInt8) : List UInt8 := (hmac key (bytesN 4 seq ++ body)).take 16
theorem iTag {N : Nat} (hN : 18446744073709551616 ≤ N) (key : List UInt8) (seq : Int) (body : List UInt8) (hk : key.length ≤ 1000000000) (hb : body.length ≤ 1000000000) : g_impl_packetTag N key seq body = some (lkTag key seq body) := by
  unfold g_impl_packetTag
  have e1 := bytesOf_eq hN seq 4 (by omega)
  rw [show ((4 : Nat) : Int) = 4 from rfl] at e1
  have l1 := bytesN_length 4 seq
  have e2 := iHmac hN key (bytesN 4 seq ++ body) (by omega) (by rw [List.length_append]; omega)
  have l2 := hmac_length key (bytesN 4 seq ++ body)
  simp (disch := omega) only [dec_t, gd_true, Bool.true_and, Option.bind_some, e1, e2, List.drop_zero, lkTag]
theorem sTag {N : Nat} (hN : 18446744073709551616 ≤ N) (key : List UInt8) (seq : Int) (body : List UInt8) (hk : key.length ≤ 1000000000) (hb : body.length ≤ 1000000000) : g_spec_l07Tag N key seq body = some (lkTag key seq body) := by
  unfold g_spec_l07Tag
  have l1 := bytesN_length 4 seq
  have e2 := sHmac hN key (bytesN 4 seq ++ body) (by omega) (by rw [List.length_append]; omega)
  have l2 := hmac_length key (bytesN 4 seq ++ body)
  simp (disch := omega) only [dec_t, gd_true, Bool.true_and, Option.bind_some, room_t, sFour, e2, List.drop_zero, lkTag]
/-- No flag stands at a place that is not behind top. -/
def winR (top : Int) : Nat → List Bool → Bool
  | _, [] => true
  | k, x :: xs => bif x && decide (top ≤ (k : Int)) then false else winR top (k + 1) xs
theorem linkOK_l4 (N : Nat) (top : Int) (c0 : List Bool) (m3 : List UInt8) (m4 : Int) (m6 : List Bool) (hl : c0.length ≤ 1000000) (ht : 0 ≤ top ∧ top ≤ 1000000) : ∀ (n k : Nat), c0.length ≤ k + n - 1 → 0 < n → k ≤ c0.length →
    g_impl_LinkOK.l4 N n c0 (c0.length : Int) (k : Int) m3 m4 top m6 = some (bif winR top k (c0.drop k) then .inr () else .inl false)
  | 0, _, _, h, _ => by omega
  | n + 1, k, hn, _, hk => by
    unfold g_impl_LinkOK.l4
    by_cases h : k < c0.length
    · rw [drop_get h, winR]
      cases hv : c0[k]
      · simp (disch := omega) only [dec_t, cond_true, cond_false, gd_true, Int.toNat_natCast, get_t, Option.bind_some, bind_id, nc1, wi_of, hv, linkOK_l4 N top c0 m3 m4 m6 hl ht n (k + 1), Bool.false_and]
      · by_cases h2 : top ≤ (k : Int)
        · simp (disch := omega) only [dec_t, cond_true, cond_false, gd_true, Bool.and_self, Int.toNat_natCast, get_t, Option.bind_some, bind_id, nc1, wi_of, hv]
        · simp (disch := omega) only [dec_t, dec_f, cond_true, cond_false, gd_true, Bool.true_and, Int.toNat_natCast, get_t, Option.bind_some, bind_id, nc1, wi_of, hv, linkOK_l4 N top c0 m3 m4 m6 hl ht n (k + 1)]
    · simp (disch := omega) only [dec_t, dec_f, cond_true, cond_false, gd_true, Int.toNat_natCast, bind_id, nc1, wi_of, List.drop_of_length_le, winR]
theorem sLinkOK_l4 (N : Nat) (top : Int) (m1 : List UInt8) (m2 : Int) (c0 : List Bool) (hl : c0.length = 32) : ∀ (n k : Nat), c0.length ≤ k + n - 1 → 0 < n → k ≤ c0.length →
    g_spec_LinkOK.l4 N n (k : Int) m1 m2 top c0 = some (bif winR top k (c0.drop k) then .inr () else .inl false)
  | 0, _, h, _, _ => by omega
  | n + 1, k, hn, _, hk => by
    unfold g_spec_LinkOK.l4
    by_cases h : k < c0.length
    · rw [drop_get h, winR]
      cases hv : c0[k]
      · simp (disch := omega) only [dec_t, cond_true, cond_false, gd_true, Int.toNat_natCast, get_t, Option.bind_some, bind_id, nc1, wi_of, hv, sLinkOK_l4 N top m1 m2 c0 hl n (k + 1), Bool.false_and]
      · by_cases h2 : top ≤ (k : Int)
        · simp (disch := omega) only [dec_t, cond_true, cond_false, gd_true, Bool.and_self, Int.toNat_natCast, get_t, Option.bind_some, bind_id, nc1, wi_of, hv, ge_iff_le]
        · simp (disch := omega) only [dec_t, dec_f, cond_true, cond_false, gd_true, Bool.true_and, Int.toNat_natCast, get_t, Option.bind_some, bind_id, nc1, wi_of, hv, sLinkOK_l4 N top m1 m2 c0 hl n (k + 1), ge_iff_le]
    · simp (disch := omega) only [dec_t, dec_f, cond_true, cond_false, gd_true, Int.toNat_natCast, bind_id, nc1, wi_of, List.drop_of_length_le, winR]
/-- Whether a link is right. -/
def linkB (l : LinkT) : Bool := decide (l.1.length = 32) && (decide (0 ≤ l.2.1) && decide (l.2.1 ≤ 1000000)) && (decide (0 ≤ l.2.2.1) && decide (l.2.2.1 ≤ 1000000)) && decide (l.2.2.2.length = 32) && (l.2.2.2[0]?.getD false == decide (0 < l.2.2.1)) && winR l.2.2.1 0 l.2.2.2
theorem iLinkOK {N : Nat} (hN : 18446744073709551616 ≤ N) (l : LinkT) (h1 : l.1.length ≤ 1000000000) (h2 : l.2.2.2.length ≤ 1000000000) : g_impl_LinkOK N l = some (linkB l) := by
  obtain ⟨key, sent, top, win⟩ := l
  dsimp only at h1 h2
  unfold g_impl_LinkOK linkB
  simp only [iWithin, Option.bind_some]
  by_cases q1 : key.length = 32
  · by_cases q2 : 0 ≤ sent ∧ sent ≤ 1000000
    · by_cases q3 : 0 ≤ top ∧ top ≤ 1000000
      · by_cases q4 : win.length = 32
        · have e := linkOK_l4 N top win key sent win (by omega) q3 N 0 (by omega) (by omega) (by omega)
          rw [Int.natCast_zero, List.drop_zero] at e
          have ed : (top != 0) = decide (0 < top) := by
            rw [bne_dec]
            by_cases h : top = 0
            · rw [dec_t h, dec_f (by omega)]; rfl
            · rw [dec_f h, dec_t (by omega)]; rfl
          have eg : win[0]?.getD false = win[0] := by rw [get_t (show 0 < win.length by omega)]; rfl
          rw [eg]
          simp (disch := omega) only [dec_t, decide_true, cond_false, Bool.not_true, Bool.true_and, Bool.and_self, get_t, Option.bind_some, bne_fi, q1, q2.1, q2.2, q3.1, q3.2, e, ed]
          cases (win[0] == decide (0 < top))
          · simp only [Bool.not_false, cond_true, Bool.false_and]
          · simp only [Bool.not_true, cond_false, Bool.true_and]
            cases winR top 0 win <;> rfl
        · simp (disch := omega) only [dec_f, decide_true, cond_true, cond_false, Bool.not_true, Bool.and_self, bne_ti, bne_fi, q1, q2.1, q2.2, q3.1, q3.2, Bool.and_false, Bool.false_and]
      · have : (decide (0 ≤ top) && decide (top ≤ 1000000)) = false := by rw [← Bool.decide_and, dec_f q3]
        simp (disch := omega) only [decide_true, cond_true, cond_false, Bool.not_true, Bool.not_false, Bool.and_self, bne_ti, bne_fi, q1, q2.1, q2.2, this, Bool.and_false, Bool.false_and]
    · have : (decide (0 ≤ sent) && decide (sent ≤ 1000000)) = false := by rw [← Bool.decide_and, dec_f q2]
      simp (disch := omega) only [decide_true, cond_true, cond_false, Bool.not_false, bne_fi, q1, this, Bool.and_false, Bool.false_and]
  · simp (disch := omega) only [dec_f, cond_true, bne_ti, Bool.false_and]
theorem sLinkOK {N : Nat} (hN : 18446744073709551616 ≤ N) (l : LinkT) (h1 : l.1.length ≤ 1000000000) (h2 : l.2.2.2.length ≤ 1000000000) : g_spec_LinkOK N l = some (linkB l) := by
  obtain ⟨key, sent, top, win⟩ := l
  dsimp only at h1 h2
  unfold g_spec_LinkOK linkB
  simp only [sIn, Option.bind_some]
  by_cases q1 : key.length = 32
  · by_cases q2 : 0 ≤ sent ∧ sent ≤ 1000000
    · by_cases q3 : 0 ≤ top ∧ top ≤ 1000000
      · by_cases q4 : win.length = 32
        · have e := sLinkOK_l4 N top key sent win q4 N 1 (by omega) (by omega) (by omega)
          rw [show ((1 : Nat) : Int) = 1 from rfl] at e
          have eg : win[0]?.getD false = win[0] := by rw [get_t (show 0 < win.length by omega)]; rfl
          have ew : (win[0] == decide (0 < top)) = true → winR top 0 win = winR top 1 (win.drop 1) := fun h => by
            have h3 := drop_get (xs := win) (i := 0) (by omega)
            rw [List.drop_zero] at h3
            rw [h3, winR]
            have h6 : (win[0] && decide (top ≤ ((0 : Nat) : Int))) = false := by
              cases h4 : win[0]
              · rfl
              · rw [h4] at h
                by_cases h5 : 0 < top
                · rw [dec_f (by omega)]; rfl
                · rw [dec_f h5] at h; cases h
            rw [h6, cond_false, show (win[0] :: win.drop (0 + 1)).drop 1 = win.drop (0 + 1) from rfl]
          rw [eg]
          simp (disch := omega) only [dec_t, decide_true, cond_false, Bool.not_true, Bool.true_and, Bool.and_self, get_t, Option.bind_some, bne_fi, q1, q2.1, q2.2, q3.1, q3.2, e, gt_iff_lt]
          cases hb : (win[0] == decide (0 < top))
          · simp only [Bool.not_false, cond_true, Bool.false_and]
          · rw [ew hb]
            simp only [Bool.not_true, cond_false, Bool.true_and]
            cases winR top 1 (win.drop 1) <;> rfl
        · simp (disch := omega) only [dec_f, decide_true, cond_true, cond_false, Bool.not_true, Bool.and_self, bne_ti, bne_fi, q1, q2.1, q2.2, q3.1, q3.2, Bool.and_false, Bool.false_and]
      · have : (decide (0 ≤ top) && decide (top ≤ 1000000)) = false := by rw [← Bool.decide_and, dec_f q3]
        simp (disch := omega) only [decide_true, cond_true, cond_false, Bool.not_true, Bool.not_false, Bool.and_self, bne_fi, q1, q2.1, q2.2, this, Bool.and_false, Bool.false_and]
    · have : (decide (0 ≤ sent) && decide (sent ≤ 1000000)) = false := by rw [← Bool.decide_and, dec_f q2]
      simp (disch := omega) only [decide_true, cond_true, cond_false, Bool.not_false, bne_fi, q1, this, Bool.and_false, Bool.false_and]
  · simp (disch := omega) only [dec_f, cond_true, bne_ti, Bool.false_and]
theorem cloneB (N : Nat) (xs : List Bool) (h : xs.length ≤ 1000000000) : g_slices_Clone_Sbool_bool N xs = some xs := by
  unfold g_slices_Clone_Sbool_bool
  cases xs with
  | nil => rfl
  | cons x xs =>
    unfold g_slices_Clone_Sbool_bool_v
    simp only [List.isEmpty_cons, cond_false]
    rw [room_t (by omega)]; simp only [gd_true, List.nil_append]
theorem iOwn (N : Nat) (l : LinkT) (h : l.2.2.2.length ≤ 1000000000) : g_impl_Link_own N l = some l := by
  unfold g_impl_Link_own; simp only [cloneB N _ h, Option.bind_some]
theorem sOwn (N : Nat) (l : LinkT) (h : l.2.2.2.length ≤ 1000000000) : g_spec_l07Own N l = some l := by
  unfold g_spec_l07Own; rw [room_t (by omega)]; simp only [gd_true, List.nil_append]
/-! ### Sending -/
theorem long1 {N : Nat} (hN : 18446744073709551616 ≤ N) (a : List UInt8) : g_impl_isLong_string N [a] = some (decide (65536 < a.length)) := by
  have key : ∀ n c0 c1 m, g_slices_IndexFunc_Sstring_string__b_impl_isLong_string_1_.l2 N n c0 c1 m = idxL (g_impl_isLong_string_1 N) n c0 c1 m := by
    intro n c0 c1
    induction n with
    | zero => intro m; rfl
    | succ n ih => intro m; simp only [g_slices_IndexFunc_Sstring_string__b_impl_isLong_string_1_.l2, idxL, ih]
  have hp : ∀ x ∈ [a], g_impl_isLong_string_1 N x = some ((fun x : List UInt8 => decide (65536 < x.length)) x) := fun x _ => by
    unfold g_impl_isLong_string_1
    dsimp only
    by_cases h : 65536 < x.length
    · rw [dec_t h, dec_t (by omega)]
    · rw [dec_f h, dec_f (by omega)]
  unfold g_impl_isLong_string g_slices_ContainsFunc_Sstring_string__b_impl_isLong_string_1_ g_slices_IndexFunc_Sstring_string__b_impl_isLong_string_1_
  rw [key, contains_eq (p := g_impl_isLong_string_1 N) (q := fun x => decide (65536 < x.length)) [a] hp (by simp; omega) (by simp)]
  simp only [Option.bind_some, List.any_cons, List.any_nil, Bool.or_false]
def lkSend (l : LinkT) (body : List UInt8) : LinkT × PktT × Int :=
  if 65536 < body.length then (([], 0, 0, []), (0, [], []), 2)
  else if linkB l = true then
    if l.2.1 = 1000000 then (l, (0, [], []), 19) else ((l.1, l.2.1 + 1, l.2.2), (l.2.1 + 1, body, lkTag l.1 (l.2.1 + 1) body), 0)
  else (([], 0, 0, []), (0, [], []), 1)
theorem linkB_range {l : LinkT} (h : linkB l = true) : l.1.length = 32 ∧ 0 ≤ l.2.1 ∧ l.2.1 ≤ 1000000 ∧ 0 ≤ l.2.2.1 ∧ l.2.2.1 ≤ 1000000 ∧ l.2.2.2.length = 32 := by
  unfold linkB at h
  simp only [Bool.and_eq_true, decide_eq_true_eq] at h
  omega
theorem iSend {N : Nat} (hN : 18446744073709551616 ≤ N) (l : LinkT) (body : List UInt8) (h1 : l.1.length ≤ 1000000000) (h2 : l.2.2.2.length ≤ 1000000000) (h3 : body.length ≤ 1000000000) : g_impl_LinkSend N l body = some (lkSend l body) := by
  unfold g_impl_LinkSend lkSend
  simp only [long1 hN, iLinkOK hN l h1 h2, iOwn N l h2, Option.bind_some]
  by_cases q1 : 65536 < body.length
  · simp only [dec_t q1, cond_true, if_pos q1]
  · cases q2 : linkB l
    · simp only [dec_f q1, cond_false, if_neg q1, Bool.not_false, cond_true, Bool.false_eq_true, if_false]
    · obtain ⟨r1, r2, r3, r4, r5, r6⟩ := linkB_range q2
      by_cases q3 : l.2.1 = 1000000
      · simp only [dec_f q1, cond_false, if_neg q1, Bool.not_true, beq_ti q3, cond_true, if_true, if_pos q3]
      · simp (disch := omega) only [dec_f, cond_false, Bool.not_true, Option.bind_some, wi_of, beq_fi, if_neg q1, if_neg q3, iTag hN, if_true]
end Go.Vm
/- Links: taking. -/
set_option linter.unusedVariables false
set_option maxRecDepth 100000
namespace Go.Vm
def shiftW (d : Nat) (w : List Bool) : List Bool := (List.range 32).map fun i => if d ≤ i then w[i - d]?.getD false else false
theorem shiftW_length (d : Nat) (w : List Bool) : (shiftW d w).length = 32 := by simp [shiftW]
theorem shiftW_get (d : Nat) (w : List Bool) {i : Nat} (h : i < 32) : (shiftW d w)[i]? = some (if d ≤ i then w[i - d]?.getD false else false) := by
  unfold shiftW
  rw [List.getElem?_map, List.getElem?_range h]; rfl
theorem tset {α : Type} {S w : List α} {i : Nat} {v : α} (hS : S[i]? = some v) (hw : i < w.length) : (S.take i ++ w.drop i).set i v = S.take (i + 1) ++ w.drop (i + 1) := by
  obtain ⟨h, _⟩ := List.getElem?_eq_some_iff.1 hS
  have e : (S.take i).length = i := by rw [List.length_take]; omega
  have := mid_set (S.take i) w[i] v (w.drop (i + 1))
  rw [e] at this
  rw [drop_get hw, this, List.take_add_one, hS, List.append_assoc]
  rfl
theorem dset {α : Type} {S w : List α} {i : Nat} {v : α} (hS : S[i]? = some v) (hw : i < w.length) : (w.take (i + 1) ++ S.drop (i + 1)).set i v = w.take i ++ S.drop i := by
  obtain ⟨h, hv⟩ := List.getElem?_eq_some_iff.1 hS
  have e : (w.take i).length = i := by rw [List.length_take]; omega
  have := mid_set (w.take i) w[i] v (S.drop (i + 1))
  rw [e] at this
  rw [List.take_add_one, get_t hw, show (some w[i]).toList = [w[i]] from rfl, List.append_assoc, List.singleton_append, this, drop_get h, hv]
theorem take_l10 (N : Nat) (d : Nat) (hd : 1 ≤ d) (hd2 : d ≤ 1000000) (m2 : List UInt8) (m3 m4 : Int) (w : List Bool) (hw : w.length = 32) (m6 : Int) (h64 : m6 - m4 = (d : Int)) (h0 : 0 ≤ m4) (m7 m8 m9 : List UInt8) (m10 m11 : Int) (m12 : List UInt8) (m13 m14 : Int) : ∀ (n i : Nat), 32 ≤ i + n - 1 → 0 < n → i ≤ 32 →
    g_impl_LinkTake.l10 N n 32 (i : Int) m2 m3 m4 w m6 m7 m8 m9 m10 m11 m12 m13 m14 ((shiftW d w).take i ++ w.drop i) = some (m6, m7, m8, m9, m10, m11, m12, m13, m14, shiftW d w)
  | 0, _, _, h, _ => by omega
  | n + 1, i, hn, _, hi => by
    unfold g_impl_LinkTake.l10
    have hsl := shiftW_length d w
    have hl : ((shiftW d w).take i ++ w.drop i).length = 32 := by rw [List.length_append, List.length_take, List.length_drop]; omega
    by_cases h : i < 32
    · have hg := get_t (show i < ((shiftW d w).take i ++ w.drop i).length by omega)
      have hs := shiftW_get d w h
      have hr := take_l10 N d hd hd2 m2 m3 m4 w hw m6 h64 h0 m7 m8 m9 m10 m11 m12 m13 m14 n (i + 1) (by omega) (by omega) (by omega)
      have e0 : wi (m6 - m4) = (d : Int) := by rw [h64, wi_of (by omega) (by omega)]
      by_cases hdi : d ≤ i
      · rw [if_pos hdi] at hs
        have hq := tset hs (show i < w.length by omega)
        have e1 : ((i : Int) - d).toNat = i - d := by omega
        rw [get_t (show i - d < w.length by omega), Option.getD_some] at hq
        simp only [e0]
        simp (disch := omega) only [dec_t, cond_true, gd_true, Int.toNat_natCast, get_t, Option.bind_some, bind_id, nc1, wi_of, List.length_append, List.length_take, List.length_drop, e1, hg, hq, ge_iff_le]
        exact hr
      · rw [if_neg hdi] at hs
        have hq := tset hs (show i < w.length by omega)
        simp only [e0]
        simp (disch := omega) only [dec_t, dec_f, cond_true, cond_false, gd_true, Int.toNat_natCast, get_t, Option.bind_some, bind_id, nc1, wi_of, List.length_append, List.length_take, List.length_drop, hg, hq, ge_iff_le]
        exact hr
    · obtain rfl : i = 32 := by omega
      have := shiftW_length d w
      simp (disch := omega) only [dec_t, dec_f, cond_false, gd_true, Int.toNat_natCast, bind_id, nc1, wi_of, List.drop_of_length_le, List.append_nil, List.take_of_length_le]
theorem sTake_l17 (N : Nat) (d : Nat) (hd : 1 ≤ d) (hd2 : d ≤ 1000000) (m2 : List UInt8) (m3 m4 : Int) (w : List Bool) (hw : w.length = 32) (m6 : Int) (m7 m8 m9 : List UInt8) (m10 m11 : Int) (m12 : List UInt8) (m13 m14 : Int) : ∀ (n i : Nat), i < n → i ≤ 32 →
    g_spec_LinkTake.l17 N n (d : Int) ((i : Int) - 1) m2 m3 m4 w m6 m7 m8 m9 m10 m11 m12 m13 m14 (w.take i ++ (shiftW d w).drop i) = some (m6, m7, m8, m9, m10, m11, m12, m13, m14, shiftW d w)
  | 0, _, h, _ => by omega
  | n + 1, 0, _, _ => by
    unfold g_spec_LinkTake.l17
    simp (disch := omega) only [dec_f, cond_false, bind_id, wi_of, List.take_zero, List.nil_append, List.drop_zero]
  | n + 1, i + 1, h, hi => by
    unfold g_spec_LinkTake.l17
    have hsl := shiftW_length d w
    have hl : (w.take (i + 1) ++ (shiftW d w).drop (i + 1)).length = 32 := by rw [List.length_append, List.length_take, List.length_drop]; omega
    have hg := get_t (show i < (w.take (i + 1) ++ (shiftW d w).drop (i + 1)).length by omega)
    have hs := shiftW_get d w (show i < 32 by omega)
    have hr := sTake_l17 N d hd hd2 m2 m3 m4 w hw m6 m7 m8 m9 m10 m11 m12 m13 m14 n i (by omega) (by omega)
    have e : (((i + 1 : Nat) : Int) - 1) = (i : Int) := by omega
    rw [e]
    by_cases hdi : d ≤ i
    · rw [if_pos hdi] at hs
      have hq := dset hs (show i < w.length by omega)
      have e1 : ((i : Int) - d).toNat = i - d := by omega
      rw [get_t (show i - d < w.length by omega), Option.getD_some] at hq
      simp (disch := omega) only [dec_t, cond_true, gd_true, Int.toNat_natCast, get_t, Option.bind_some, bind_id, wi_of, List.length_append, List.length_take, List.length_drop, e1, hg, hq, ge_iff_le]
      exact hr
    · rw [if_neg hdi] at hs
      have hq := dset hs (show i < w.length by omega)
      simp (disch := omega) only [dec_t, dec_f, cond_true, cond_false, gd_true, Int.toNat_natCast, get_t, Option.bind_some, bind_id, wi_of, List.length_append, List.length_take, List.length_drop, hg, hq, ge_iff_le]
      exact hr
def lkTake (l : LinkT) (p : PktT) : LinkT × Int :=
  if linkB l = true then
    if 1 ≤ p.1 ∧ p.1 ≤ 1000000 then
      if p.2.2 = lkTag l.1 p.1 p.2.1 then
        if p.1 ≤ l.2.2.1 - 32 then (l, 15)
        else if p.1 ≤ l.2.2.1 then
          if l.2.2.2[(l.2.2.1 - p.1).toNat]?.getD false = true then (l, 14) else ((l.1, l.2.1, l.2.2.1, l.2.2.2.set (l.2.2.1 - p.1).toNat true), 0)
        else ((l.1, l.2.1, p.1, (shiftW (p.1 - l.2.2.1).toNat l.2.2.2).set 0 true), 0)
      else (l, 10)
    else (l, 4)
  else (([], 0, 0, []), 1)
theorem iTake {N : Nat} (hN : 18446744073709551616 ≤ N) (l : LinkT) (p : PktT) (h1 : l.1.length ≤ 1000000000) (h2 : l.2.2.2.length ≤ 1000000000) (h3 : p.2.1.length ≤ 1000000000) : g_impl_LinkTake N l p = some (lkTake l p) := by
  obtain ⟨key, sent, top, win⟩ := l
  obtain ⟨seq, body, tag⟩ := p
  dsimp only at h1 h2 h3
  unfold g_impl_LinkTake lkTake g_impl_Link_takeCode g_impl_isSeq
  have eT := iTag hN key seq body h1 h3
  have eO := iOwn N (key, sent, top, win) h2
  simp only [iLinkOK hN (key, sent, top, win) h1 h2, eO, iWithin, eT, Option.bind_some]
  cases q2 : linkB (key, sent, top, win)
  · simp only [Bool.not_false, cond_true, Bool.false_eq_true, if_false]
  · obtain ⟨r1, r2, r3, r4, r5, r6⟩ := linkB_range q2
    dsimp only at r1 r2 r3 r4 r5 r6
    by_cases q3 : 1 ≤ seq ∧ seq ≤ 1000000
    · by_cases q4 : tag = lkTag key seq body
      · simp only [if_true, if_pos q3, if_pos q4, beq_dec, dec_t q4, dec_t q3.1, dec_t q3.2, Bool.and_self, Bool.not_true, cond_false]
        have ew : wi (top - 32) = top - 32 := wi_of (by omega) (by omega)
        rw [ew]
        by_cases q5 : seq ≤ top - 32
        · simp (disch := omega) only [dec_t, dec_f, cond_true, cond_false, gd_true, Option.bind_some, wi_of, bne_ti, if_pos q5]
        · by_cases q6 : seq ≤ top
          · have eg : win[(top - seq).toNat]?.getD false = win[(top - seq).toNat] := by rw [get_t (show (top - seq).toNat < win.length by omega)]; rfl
            have e6 : seq ≤ top := q6
            rw [if_neg q5, if_pos q6, eg]
            simp (disch := omega) only [dec_t, dec_f, cond_true, cond_false, gd_true, get_t, Option.bind_some, wi_of]
            cases hv : win[(top - seq).toNat]
            · simp (disch := omega) only [cond_false, Option.bind_some, bne_fi, Bool.false_eq_true, if_false]
            · simp (disch := omega) only [cond_true, Option.bind_some, bne_ti, if_true]
          · have e := take_l10 N (seq - top).toNat (by omega) (by omega) key sent top win r6 seq (by omega) r4 body tag [] 0 0 key sent seq N 0 (by omega) (by omega) (by omega)
            rw [Int.natCast_zero, List.take_zero, List.nil_append, List.drop_zero] at e
            have hl := shiftW_length (seq - top).toNat win
            have e0 : wi (seq - seq) = 0 := by rw [wi_of (by omega) (by omega)]; omega
            rw [if_neg q5, if_neg q6]
            simp (disch := omega) only [dec_t, dec_f, cond_true, cond_false, gd_true, get_t, Option.bind_some, wi_of, bne_fi, r6]
            rw [show ((32 : Nat) : Int) = 32 from rfl, e]
            simp (disch := omega) only [dec_t, gd_true, get_t, Option.bind_some, wi_of, Int.toNat_zero, Int.sub_self]
      · simp only [if_true, if_pos q3, if_neg q4, beq_dec, dec_f q4, dec_t q3.1, dec_t q3.2, Bool.and_self, Bool.not_true, cond_false, Bool.not_false, cond_true]
        rfl
    · have : (decide (1 ≤ seq) && decide (seq ≤ 1000000)) = false := by rw [← Bool.decide_and, dec_f q3]
      simp only [if_true, if_neg q3, this, Bool.not_false, cond_true, Bool.not_true, cond_false]
      rfl
theorem sTake {N : Nat} (hN : 18446744073709551616 ≤ N) (l : LinkT) (p : PktT) (h1 : l.1.length ≤ 1000000000) (h2 : l.2.2.2.length ≤ 1000000000) (h3 : p.2.1.length ≤ 1000000000) : g_spec_LinkTake N l p = some (lkTake l p) := by
  obtain ⟨key, sent, top, win⟩ := l
  obtain ⟨seq, body, tag⟩ := p
  dsimp only at h1 h2 h3
  unfold g_spec_LinkTake lkTake
  have eT := sTag hN key seq body h1 h3
  have eO := sOwn N (key, sent, top, win) h2
  simp only [sLinkOK hN (key, sent, top, win) h1 h2, eO, sIn, eT, Option.bind_some]
  cases q2 : linkB (key, sent, top, win)
  · simp only [Bool.not_false, cond_true, Bool.false_eq_true, if_false]
  · obtain ⟨r1, r2, r3, r4, r5, r6⟩ := linkB_range q2
    dsimp only at r1 r2 r3 r4 r5 r6
    by_cases q3 : 1 ≤ seq ∧ seq ≤ 1000000
    · by_cases q4 : tag = lkTag key seq body
      · simp only [if_true, if_pos q3, if_pos q4, beq_dec, dec_t q4.symm, dec_t q3.1, dec_t q3.2, Bool.and_self, Bool.not_true, cond_false]
        have ew : wi (top - 32) = top - 32 := wi_of (by omega) (by omega)
        rw [ew]
        by_cases q5 : seq ≤ top - 32
        · simp (disch := omega) only [dec_t, dec_f, cond_true, gd_true, wi_of, if_pos q5]
        · by_cases q6 : seq ≤ top
          · have eg : win[(top - seq).toNat]?.getD false = win[(top - seq).toNat] := by rw [get_t (show (top - seq).toNat < win.length by omega)]; rfl
            rw [if_neg q5, if_pos q6, eg]
            simp (disch := omega) only [dec_t, dec_f, cond_true, cond_false, gd_true, get_t, Option.bind_some, wi_of]
            cases hv : win[(top - seq).toNat]
            · simp (disch := omega) only [cond_false, Bool.false_eq_true, if_false]
            · simp (disch := omega) only [cond_true, if_true]
          · have e := sTake_l17 N (seq - top).toNat (by omega) (by omega) key sent top win r6 seq body tag [] 0 0 key sent top N 32 (by omega) (by omega)
            have hl := shiftW_length (seq - top).toNat win
            rw [List.take_of_length_le (by omega), List.drop_of_length_le (by omega), List.append_nil, show (((32 : Nat) : Int) - 1) = 31 from rfl, show (((seq - top).toNat : Nat) : Int) = seq - top by omega] at e
            rw [if_neg q5, if_neg q6]
            simp (disch := omega) only [dec_t, dec_f, cond_false, gd_true, get_t, Option.bind_some, wi_of, e]
      · simp only [if_true, if_pos q3, if_neg q4, beq_dec, dec_f (Ne.symm q4), dec_t q3.1, dec_t q3.2, Bool.and_self, Bool.not_true, cond_false, Bool.not_false, cond_true]
    · have : (decide (1 ≤ seq) && decide (seq ≤ 1000000)) = false := by rw [← Bool.decide_and, dec_f q3]
      simp only [if_true, if_neg q3, this, Bool.not_false, cond_true, Bool.not_true, cond_false]
end Go.Vm
/- Disks: what the program and the reference do, in plain words. -/
set_option linter.unusedVariables false
set_option maxRecDepth 100000
namespace Go.Vm
abbrev DiskT := List (List UInt8) × List (Int × List UInt8) × List (List UInt8)
structure OkD (d : DiskT) : Prop where
  b1 : 1 ≤ d.1.length
  b2 : d.1.length ≤ 64
  b3 : ∀ x ∈ d.1, x.length ≤ 200
  c1 : d.2.1.length ≤ 4096
  c2 : ∀ p ∈ d.2.1, 0 ≤ p.1 ∧ p.1 < (d.1.length : Int) ∧ p.2.length ≤ 200
  s1 : d.2.2 = [] ∨ d.2.2.length = d.1.length
  s2 : ∀ x ∈ d.2.2, x.length ≤ 200
theorem OkD.s3 {d : DiskT} (h : OkD d) : d.2.2.length ≤ 64 := by
  rcases h.s1 with e | e
  · rw [e]; simp
  · rw [e]; exact h.b2
end Go.Vm
/- Disks: an act. -/
set_option linter.unusedVariables false
set_option maxRecDepth 100000
namespace Go.Vm
end Go.Vm
/- Disks: runs, reading, comparing. -/
set_option linter.unusedVariables false
set_option maxRecDepth 100000
namespace Go.Vm
end Go.Vm
/- Disks: which is right, what is read, which read the same. -/
set_option linter.unusedVariables false
set_option maxRecDepth 100000
namespace Go.Vm
end Go.Vm
/- Draws. -/
set_option linter.unusedVariables false
set_option maxRecDepth 100000
namespace Go.Vm
abbrev SrcT := List UInt8 × Int × Int
structure InS (K : Nat) (s : SrcT) : Prop where
  len : s.1.length ≤ 1048576
  p0 : 0 ≤ s.2.1
  p1 : s.2.1 ≤ (K : Int)
  s0 : 0 ≤ s.2.2
  s1 : s.2.2 < 2147483648
theorem InS.mono {K L : Nat} {s : SrcT} (h : InS K s) (hl : K ≤ L) : InS L s := ⟨h.len, h.p0, by have := h.p1; omega, h.s0, h.s1⟩
theorem tmod_r (x n : Int) (h0 : 0 ≤ x) (hn : 0 < n) : 0 ≤ x.tmod n ∧ x.tmod n < n := ⟨Int.tmod_nonneg _ h0, Int.tmod_lt_of_pos _ hn⟩
theorem byte_draw (N : Nat) {K : Nat} (hK : K ≤ 1000000000) {s : SrcT} (h : InS K s) : ∃ s' v, g_spec_l00Src_byte__v N s = some (s', v) ∧ InS (K + 1) s' ∧ 0 ≤ v ∧ v ≤ 255 := by
  obtain ⟨code, pos, seed⟩ := s
  obtain ⟨h1, h2, h3, h4, h5⟩ := h
  dsimp only at h1 h2 h3 h4 h5
  unfold g_spec_l00Src_byte__v
  dsimp only
  obtain ⟨p, rfl⟩ : ∃ p : Nat, pos = (p : Int) := ⟨pos.toNat, by omega⟩
  have e1 : wi ((p : Int) + 1) = ((p + 1 : Nat) : Int) := by rw [wi_of] <;> omega
  have e2 : wi (((p + 1 : Nat) : Int) - 1) = (p : Int) := by rw [wi_of] <;> omega
  rw [e1, e2]
  by_cases hp : p < code.length
  · have hb := (code[p]).toNat_lt
    simp (disch := omega) only [dec_t, cond_true, gd_true, Int.toNat_natCast, get_t, Option.bind_some, wi_u8, wi_of]
    have q := tmod_r (seed * 31 + (code[p].toNat : Int) + 7) 2147483648 (by omega) (by omega)
    exact ⟨_, _, rfl, ⟨h1, by dsimp only; omega, by dsimp only; omega, q.1, q.2⟩, by omega, by omega⟩
  · by_cases hq : 3000 < p + 1
    · simp (disch := omega) only [dec_t, dec_f, cond_true, cond_false, gd_true, Int.toNat_natCast, wi_u8, wi_of]
      exact ⟨_, _, rfl, ⟨h1, by dsimp only; omega, by dsimp only; omega, h4, h5⟩, by omega, by omega⟩
    · have q := tmod_r (seed * 1103515245 + 12345) 2147483648 (by omega) (by omega)
      have e3 : wi (wi (seed * 1103515245) + 12345) = seed * 1103515245 + 12345 := by rw [wi_of (x := seed * 1103515245) (by omega) (by omega), wi_of (by omega) (by omega)]
      rw [e3]
      generalize (seed * 1103515245 + 12345).tmod 2147483648 = z at q ⊢
      have q2 : z.tdiv 65536 = z / 65536 := Int.tdiv_eq_ediv_of_nonneg q.1
      have q3 := tmod_r (z / 65536) 256 (by omega) (by omega)
      simp (disch := omega) only [dec_t, dec_f, cond_false, gd_true, Int.toNat_natCast, wi_u8, wi_of, q2]
      exact ⟨_, _, rfl, ⟨h1, by dsimp only; omega, by dsimp only; omega, q.1, q.2⟩, q3.1, by omega⟩
theorem next_draw (N : Nat) {K : Nat} (hK : K ≤ 100000000) {s : SrcT} (h : InS K s) (n : Int) (h1 : 1 ≤ n) (h2 : n ≤ 1000000000) : ∃ s' v, g_spec_l00Src_next__vb N s n = some (s', v) ∧ InS (K + 3) s' ∧ 0 ≤ v ∧ v < n := by
  unfold g_spec_l00Src_next__vb
  by_cases e1 : n ≤ 1
  · rw [dec_t e1, cond_true]
    exact ⟨_, _, rfl, h.mono (by omega), by omega, by omega⟩
  · obtain ⟨s1, v1, d1, i1, a1, b1⟩ := byte_draw N (by omega) h
    rw [dec_f e1, cond_false, d1]
    by_cases e2 : n ≤ 256
    · have q := tmod_r v1 n a1 (by omega)
      simp (disch := omega) only [dec_t, cond_true, cond_false, Option.bind_some, wi_of, beq_fi]
      exact ⟨_, _, rfl, i1.mono (by omega), q.1, q.2⟩
    · obtain ⟨s2, v2, d2, i2, a2, b2⟩ := byte_draw N (by omega) i1
      obtain ⟨s3, v3, d3, i3, a3, b3⟩ := byte_draw N (by omega) i2
      have q := tmod_r (v1 * 65536 + v2 * 256 + v3) n (by omega) (by omega)
      simp (disch := omega) only [dec_f, cond_false, Option.bind_some, wi_of, beq_fi, d2, d3]
      exact ⟨_, _, rfl, i3, q.1, q.2⟩
end Go.Vm
/- What is read of a disk is what was written last; behind a sync a crash changes nothing. -/
set_option linter.unusedVariables false
set_option maxRecDepth 100000
namespace Go.Vm
theorem source_ok (N : Nat) (code : List UInt8) (hc : code.length ≤ 1048576) : ∃ s, g_spec_l00Source N code = some s ∧ InS 0 s := by
  unfold g_spec_l00Source
  have q := tmod_r (code.length : Int) 1000 (by omega) (by omega)
  exact ⟨_, rfl, hc, by simp, by simp, q.1, by dsimp only; omega⟩
theorem at_draw (N : Nat) (more : List UInt8) (hm : more.length ≤ 1048576) (i n : Nat) (hi : i ≤ 1000) (h1 : 1 ≤ n) (h2 : n ≤ 2000000) : ∃ v, g_laws_at N more (i : Int) (n : Int) = some v ∧ 0 ≤ v ∧ v < (n : Int) := by
  unfold g_laws_at
  by_cases e1 : (n : Int) ≤ 1
  · rw [dec_t e1, cond_true]
    exact ⟨0, rfl, by omega, by omega⟩
  · rw [dec_f e1, cond_false]
    by_cases e2 : more.length = 0
    · have q := tmod_r ((i : Int) * 7) (n : Int) (by omega) (by omega)
      simp (disch := omega) only [cond_true, cond_false, nc1, wi_u8, wi_of, beq_ti, beq_fi]
      exact ⟨_, rfl, q.1, q.2⟩
    · have q1 := tmod_r (i : Int) (more.length : Int) (by omega) (by omega)
      have q2 := tmod_r ((i : Int) + 1) (more.length : Int) (by omega) (by omega)
      have q3 : (i : Int).tdiv (more.length : Int) = (i : Int) / (more.length : Int) := Int.tdiv_eq_ediv_of_nonneg (by omega)
      have q4 : 0 ≤ (i : Int) / (more.length : Int) := Int.ediv_nonneg (by omega) (by omega)
      have q5 : (i : Int) / (more.length : Int) ≤ i := Int.ediv_le_self _ (by omega)
      generalize hx : (i : Int).tmod (more.length : Int) = x at q1 ⊢
      generalize hy : ((i : Int) + 1).tmod (more.length : Int) = y at q2
      generalize hz : (i : Int) / (more.length : Int) = z at q3 q4 q5
      have lx : x.toNat < more.length := by omega
      have ly : y.toNat < more.length := by omega
      have b1 := (more[x.toNat]).toNat_lt
      have b2 := (more[y.toNat]).toNat_lt
      have hw : wi ((i : Int) + 1) = (i : Int) + 1 := by rw [wi_of] <;> omega
      have q := tmod_r ((more[x.toNat].toNat : Int) * 31 + (more[y.toNat].toNat : Int) + z) (n : Int) (by omega) (by omega)
      rw [hw, hy, q3]
      simp (disch := omega) only [dec_t, cond_false, gd_true, get_t, Option.bind_some, wi_u8, wi_of, beq_fi]
      exact ⟨_, rfl, q.1, q.2⟩
end Go.Vm
/- The law of links: sent and taken packets. -/
set_option linter.unusedVariables false
set_option maxRecDepth 100000
namespace Go.Vm
theorem longL {N : Nat} (hN : 18446744073709551616 ≤ N) (l : List (List UInt8)) (hl : l.length ≤ 1000000) : g_impl_isLong_string N l = some (l.any fun a => decide (65536 < a.length)) := by
  have key : ∀ n c0 c1 m, g_slices_IndexFunc_Sstring_string__b_impl_isLong_string_1_.l2 N n c0 c1 m = idxL (g_impl_isLong_string_1 N) n c0 c1 m := by
    intro n c0 c1
    induction n with
    | zero => intro m; rfl
    | succ n ih => intro m; simp only [g_slices_IndexFunc_Sstring_string__b_impl_isLong_string_1_.l2, idxL, ih]
  have hp : ∀ x ∈ l, g_impl_isLong_string_1 N x = some ((fun x : List UInt8 => decide (65536 < x.length)) x) := fun x _ => by
    unfold g_impl_isLong_string_1
    dsimp only
    by_cases h : 65536 < x.length
    · rw [dec_t h, dec_t (by omega)]
    · rw [dec_f h, dec_f (by omega)]
  unfold g_impl_isLong_string g_slices_ContainsFunc_Sstring_string__b_impl_isLong_string_1_ g_slices_IndexFunc_Sstring_string__b_impl_isLong_string_1_
  rw [key, contains_eq (p := g_impl_isLong_string_1 N) (q := fun x => decide (65536 < x.length)) l hp (by omega) (by omega)]
  simp only [Option.bind_some]
def lkBody : List UInt8 := [98, 111, 100, 121]
theorem iPacketTag {N : Nat} (hN : 18446744073709551616 ≤ N) (key : List UInt8) (hk : key.length = 32) (seq : Int) (h : 1 ≤ seq ∧ seq ≤ 1000000) : g_impl_PacketTag N key seq lkBody = some (lkTag key seq lkBody, 0) := by
  unfold g_impl_PacketTag g_impl_isSeq
  have hL := longL hN [key, lkBody] (by simp)
  have hb : lkBody.length = 4 := rfl
  simp (disch := omega) only [dec_t, dec_f, cond_false, Bool.not_true, Bool.and_self, Option.bind_some, bind_id, bne_fi, hL, List.any_cons, List.any_nil, Bool.or_false, iWithin, iTag hN]
theorem sPacketTag {N : Nat} (hN : 18446744073709551616 ≤ N) (key : List UInt8) (hk : key.length = 32) (seq : Int) (h : 1 ≤ seq ∧ seq ≤ 1000000) : g_spec_PacketTag N key seq lkBody = some (lkTag key seq lkBody, 0) := by
  unfold g_spec_PacketTag
  have hb : lkBody.length = 4 := rfl
  simp (disch := omega) only [dec_t, dec_f, cond_false, Bool.not_true, Bool.and_self, Option.bind_some, bne_fi, sIn, sTag hN]
def lkKey (k : List UInt8) (a b c : Int) : List UInt8 := hmac k ([108, 105, 110, 107, wb a, wb b] ++ bytesN 4 c)
theorem bytesN1 (x : Int) : bytesN 1 x = [wb x] := rfl
theorem iLinkKey {N : Nat} (hN : 18446744073709551616 ≤ N) (k : List UInt8) (hk : k.length = 32) (a b c : Int) (ha : 0 ≤ a ∧ a ≤ 255) (hb : 0 ≤ b ∧ b ≤ 255) (hc : 0 ≤ c ∧ c ≤ 4294967295) : g_impl_LinkKey N k a b c = some (lkKey k a b c, 0) := by
  unfold g_impl_LinkKey g_impl_isByte g_impl_isWord
  have hL := longL hN [k] (by simp)
  have e1 := bytesOf_eq hN a 1 (by omega)
  have e2 := bytesOf_eq hN b 1 (by omega)
  have e3 := bytesOf_eq hN c 4 (by omega)
  rw [show ((1 : Nat) : Int) = 1 from rfl] at e1 e2
  rw [show ((4 : Nat) : Int) = 4 from rfl] at e3
  have l4 := bytesN_length 4 c
  have e4 := iHmac hN k ([108, 105, 110, 107, wb a, wb b] ++ bytesN 4 c) (by omega) (by rw [List.length_append]; simp; omega)
  simp (disch := omega) only [dec_t, dec_f, cond_false, gd_true, Bool.not_true, Bool.and_self, Option.bind_some, bind_id, bne_fi, List.length_append, List.length_cons, List.length_nil, hL, List.any_cons, List.any_nil, Bool.or_false, iWithin, e1, e2, e3, bytesN1, List.cons_append, List.nil_append, lkKey] at e4 ⊢
  rw [e4]; rfl
theorem sLinkKey {N : Nat} (hN : 18446744073709551616 ≤ N) (k : List UInt8) (hk : k.length = 32) (a b c : Int) (ha : 0 ≤ a ∧ a ≤ 255) (hb : 0 ≤ b ∧ b ≤ 255) (hc : 0 ≤ c ∧ c ≤ 4294967295) : g_spec_LinkKey N k a b c = some (lkKey k a b c, 0) := by
  unfold g_spec_LinkKey g_spec_l07Key
  have l4 := bytesN_length 4 c
  have e4 := sHmac hN k ([108, 105, 110, 107, wb a, wb b] ++ bytesN 4 c) (by omega) (by rw [List.length_append]; simp; omega)
  simp (disch := omega) only [dec_t, dec_f, cond_false, gd_true, Bool.not_true, Bool.and_self, Option.bind_some, bind_id, bne_fi, List.length_cons, List.length_nil, sIn, sFour, List.cons_append, List.nil_append, lkKey] at e4 ⊢
  rw [e4]; rfl
theorem iNewLink {N : Nat} (hN : 18446744073709551616 ≤ N) (k : List UInt8) (hk : k.length = 32) : g_impl_NewLink N k = some ((k, 0, 0, List.replicate 32 false), 0) := by
  unfold g_impl_NewLink
  have hL := longL hN [k] (by simp)
  simp (disch := omega) only [dec_f, cond_false, Option.bind_some, bne_fi, hL, List.any_cons, List.any_nil, Bool.or_false]
theorem winR_iff (top : Int) : ∀ (xs : List Bool) (k : Nat), winR top k xs = true ↔ ∀ j : Nat, xs[j]? = some true → ((k + j : Nat) : Int) < top
  | [], k => by simp [winR]
  | x :: xs, k => by
    rw [winR]
    constructor
    · intro h j hj
      cases hx : x && decide (top ≤ (k : Int))
      · rw [hx, cond_false] at h
        cases j with
        | zero =>
          simp only [List.getElem?_cons_zero, Option.some.injEq] at hj
          rw [hj, Bool.true_and, decide_eq_false_iff_not] at hx
          omega
        | succ j =>
          have := (winR_iff top xs (k + 1)).1 h j (by simpa using hj)
          omega
      · rw [hx, cond_true] at h; cases h
    · intro h
      have hx : (x && decide (top ≤ (k : Int))) = false := by
        cases x
        · rfl
        · have := h 0 rfl
          rw [Bool.true_and, dec_f (by omega)]
      rw [hx, cond_false, winR_iff top xs (k + 1)]
      intro j hj
      have := h (j + 1) (by simpa using hj)
      omega
theorem linkB_new {key : List UInt8} (hk : key.length = 32) {i : Int} (h : 0 ≤ i ∧ i ≤ 1000000) : linkB (key, i, 0, List.replicate 32 false) = true := by
  have hw : winR 0 0 (List.replicate 32 false) = true := by
    rw [winR_iff]
    intro j hj
    rw [List.getElem?_replicate] at hj
    split at hj <;> simp at hj
  unfold linkB
  dsimp only
  rw [hw, dec_t hk, dec_t h.1, dec_t h.2]
  rfl
def pk (key : List UInt8) (j : Nat) : PktT := (((j + 1 : Nat) : Int), lkBody, lkTag key ((j + 1 : Nat) : Int) lkBody)
theorem lkSend_new {key : List UInt8} (hk : key.length = 32) {i : Nat} (h : i < 1000000) : lkSend (key, (i : Int), 0, List.replicate 32 false) lkBody = ((key, ((i + 1 : Nat) : Int), 0, List.replicate 32 false), pk key i, 0) := by
  unfold lkSend
  rw [if_neg (by show ¬ 65536 < 4; omega), if_pos (linkB_new hk ⟨by omega, by omega⟩), if_neg (by dsimp only; omega)]
  rfl
theorem send_l11 {N : Nat} (hN : 18446744073709551616 ≤ N) (c0 key m6 : List UInt8) (m7 m8 : Int) (m11 : List Bool) (hk : key.length = 32) : ∀ (n i : Nat) (acc : List PktT), 50 ≤ i + n - 1 → 0 < n → i ≤ 50 → acc = (List.range i).map (pk key) →
    g_laws_FnLink.l11 N n c0 key (i : Int) key (i : Int) 0 m6 m7 m8 acc (List.replicate 32 false) m11 = some (.inr (m6, m7, m8, (List.range 50).map (pk key), m11))
  | 0, _, _, _, h, _, _ => by omega
  | n + 1, i, acc, hn, _, hi, ha => by
    unfold g_laws_FnLink.l11
    by_cases h : i < 50
    · have e1 := iSend hN (key, (i : Int), 0, List.replicate 32 false) lkBody (by dsimp only; omega) (by simp) (by show 4 ≤ _; omega)
      rw [lkSend_new hk (by omega)] at e1
      have e2 := iPacketTag hN key hk ((i + 1 : Nat) : Int) (by omega)
      have e3 := sPacketTag hN key hk ((i + 1 : Nat) : Int) (by omega)
      have hl : acc.length = i := by rw [ha]; simp
      have hp1 : (pk key i).1 = ((i + 1 : Nat) : Int) := rfl
      have hp2 : (pk key i).2.2 = lkTag key ((i + 1 : Nat) : Int) lkBody := rfl
      have hr := send_l11 hN c0 key m6 m7 m8 m11 hk n (i + 1) (acc ++ [pk key i]) (by omega) (by omega) (by omega) (by rw [ha, List.range_succ, List.map_append]; rfl)
      rw [show ([98, 111, 100, 121] : List UInt8) = lkBody from rfl]
      simp (disch := omega) only [dec_t, cond_true, cond_false, gd_true, Bool.not_true, Option.bind_some, bind_id, nc1, wi_of, room_t, bne_fi, List.length_cons, List.length_nil, e1, e2, e3, hp1, hp2, beq_self_eq_true]
      exact hr
    · obtain rfl : i = 50 := by omega
      simp (disch := omega) only [dec_f, cond_false, bind_id, nc1, wi_of, List.length_cons, List.length_nil, List.length_map, ha]
/-! ### Taking -/
structure TInv (key : List UInt8) (top : Int) (taken : List Int) (w : List Bool) : Prop where
  t0 : 0 ≤ top
  t1 : top ≤ 50
  wl : w.length = 32
  win : ∀ i : Nat, i < 32 → (w[i]?.getD false = true ↔ top - (i : Int) ∈ taken)
  low : ∀ x ∈ taken, 1 ≤ x ∧ x ≤ top
  has : top = 0 ∨ top ∈ taken
theorem TInv.ok {key : List UInt8} (hk : key.length = 32) {top : Int} {taken : List Int} {w : List Bool} (h : TInv key top taken w) : linkB (key, 0, top, w) = true := by
  have h0 := h.t0; have h1 := h.t1
  have hw : winR top 0 w = true := by
    rw [winR_iff]
    intro j hj
    have hj2 : j < w.length := (List.getElem?_eq_some_iff.1 hj).1
    have := (h.win j (by have := h.wl; omega)).1 (by rw [hj]; rfl)
    have := h.low _ this
    omega
  have h2 : (w[0]?.getD false == decide (0 < top)) = true := by
    have h3 := h.win 0 (by omega)
    by_cases ht : 0 < top
    · have := h3.2 (by rcases h.has with q | q; · omega
                       · simpa using q)
      rw [this, dec_t ht]; rfl
    · have : ¬ w[0]?.getD false = true := fun hc => by
        have := h.low _ (h3.1 hc)
        omega
      rw [Bool.not_eq_true] at this
      rw [this, dec_f ht]; rfl
  unfold linkB
  dsimp only
  rw [hw, h2, dec_t hk, dec_t h0, dec_t (show top ≤ 1000000 by omega), dec_t h.wl]
  rfl
theorem hasInt_l2 (N : Nat) (x : Int) (c : List Int) (hc : c.length ≤ 1000000) : ∀ (n k : Nat), c.length ≤ k + n - 1 → 0 < n → k ≤ c.length → g_laws_hasInt.l2 N n c x (k : Int) = some (bif (c.drop k).any (· == x) then .inl true else .inr ())
  | 0, _, _, h, _ => by omega
  | n + 1, k, hn, _, hk => by
    unfold g_laws_hasInt.l2
    by_cases h : k < c.length
    · rw [drop_get h, List.any_cons]
      simp (disch := omega) only [dec_t, cond_true, gd_true, Int.toNat_natCast, get_t, Option.bind_some, bind_id, nc1, wi_of, hasInt_l2 N x c hc n (k + 1)]
      cases c[k] == x <;> rfl
    · simp (disch := omega) only [dec_t, dec_f, cond_false, gd_true, Int.toNat_natCast, bind_id, nc1, wi_of, List.drop_of_length_le, List.any_nil]
theorem hasInt_eq {N : Nat} (hN : 18446744073709551616 ≤ N) (c : List Int) (x : Int) (hc : c.length ≤ 1000000) : g_laws_hasInt N c x = some (decide (x ∈ c)) := by
  have e := hasInt_l2 N x c hc N 0 (by omega) (by omega) (by omega)
  rw [Int.natCast_zero, List.drop_zero] at e
  unfold g_laws_hasInt
  rw [e]
  by_cases h : x ∈ c
  · have : c.any (· == x) = true := List.any_eq_true.2 ⟨x, h, by simp⟩
    rw [this, dec_t h]; rfl
  · have : c.any (· == x) = false := by
      rw [Bool.eq_false_iff]; intro hc
      obtain ⟨y, hy, hyx⟩ := List.any_eq_true.1 hc
      exact h ((beq_iff_eq.1 hyx) ▸ hy)
    rw [this, dec_f h]; rfl
theorem take_l23 {N : Nat} (hN : 18446744073709551616 ≤ N) (c0 key : List UInt8) (hc0 : c0.length ≤ 1048576) (hk : key.length = 32) : ∀ (n i : Nat) (top : Int) (taken : List Int) (w : List Bool), 60 ≤ i + n - 1 → 0 < n → i ≤ 60 → taken.length ≤ i → TInv key top taken w →
    ∃ top' w', g_laws_FnLink.l23 N n c0 top (i : Int) key 0 top ((List.range 50).map (pk key)) taken w = some (.inr (key, 0, top', (List.range 50).map (pk key), w')) ∧ w'.length = 32
  | 0, _, _, _, _, _, h, _, _, _ => by omega
  | n + 1, i, top, taken, w, hn, _, hi, htl, hT => by
    unfold g_laws_FnLink.l23
    by_cases h : i < 60
    · obtain ⟨r, er, hr0, hr1⟩ := at_draw N c0 hc0 i 50 (by omega) (by omega) (by omega)
      rw [show ((50 : Nat) : Int) = 50 from rfl] at er hr1
      obtain ⟨j, rfl⟩ := Int.eq_ofNat_of_zero_le hr0
      have hpl : ((List.range 50).map (pk key)).length = 50 := by simp
      have hpg : ((List.range 50).map (pk key))[j]? = some (pk key j) := by
        rw [List.getElem?_map, List.getElem?_range (by omega)]; rfl
      have hok := hT.ok hk
      have hwl := hT.wl
      have ht0 := hT.t0; have ht1 := hT.t1
      have e1 := iTake hN (key, 0, top, w) (pk key j) (by dsimp only; omega) (by dsimp only; omega) (by show 4 ≤ _; omega)
      have e2 := sTake hN (key, 0, top, w) (pk key j) (by dsimp only; omega) (by dsimp only; omega) (by show 4 ≤ _; omega)
      have hseq : (pk key j).1 = ((j + 1 : Nat) : Int) := rfl
      have hrec := fun top' taken' w' => take_l23 hN c0 key hc0 hk n (i + 1) top' taken' w' (by omega) (by omega) (by omega)
      have hhas := hasInt_eq hN taken ((j + 1 : Nat) : Int) (by omega)
      have elk : lkTake (key, 0, top, w) (pk key j) = if ((j + 1 : Nat) : Int) ≤ top - 32 then ((key, 0, top, w), 15) else if ((j + 1 : Nat) : Int) ≤ top then (if ((j + 1 : Nat) : Int) ∈ taken then ((key, 0, top, w), 14) else ((key, 0, top, w.set (top - ((j + 1 : Nat) : Int)).toNat true), 0)) else ((key, 0, ((j + 1 : Nat) : Int), (shiftW (((j + 1 : Nat) : Int) - top).toNat w).set 0 true), 0) := by
        unfold lkTake
        rw [if_pos hok, if_pos (show 1 ≤ (pk key j).1 ∧ (pk key j).1 ≤ 1000000 by rw [hseq]; omega), if_pos (show (pk key j).2.2 = lkTag key (pk key j).1 (pk key j).2.1 from rfl), hseq]
        dsimp only
        split
        · rfl
        · split
          · have := hT.win (top - ((j + 1 : Nat) : Int)).toNat (by omega)
            rw [show top - (((top - ((j + 1 : Nat) : Int)).toNat : Nat) : Int) = ((j + 1 : Nat) : Int) by omega] at this
            by_cases q : ((j + 1 : Nat) : Int) ∈ taken
            · rw [if_pos (this.2 q), if_pos q]
            · rw [if_neg (fun hc => q (this.1 hc)), if_neg q]
          · rfl
      rw [elk] at e1 e2
      by_cases q1 : ((j + 1 : Nat) : Int) ≤ top - 32
      · rw [if_pos q1] at e1 e2
        have e3 := iLinkOK hN (key, 0, top, w) (by dsimp only; omega) (by dsimp only; omega)
        rw [hok] at e3
        obtain ⟨top', w', hr, hw'⟩ := hrec top taken w (by omega) hT
        refine ⟨top', w', ?_, hw'⟩
        simp (disch := omega) only [dec_t, cond_true, cond_false, gd_true, Bool.not_true, Int.toNat_natCast, Option.bind_some, bind_id, nc1, wi_of, room_t, beq_fi, bne_fi, List.length_cons, List.length_nil, er, hpl, hpg, e1, e2, e3, hseq, hr]
      · by_cases q2 : ((j + 1 : Nat) : Int) ≤ top
        · by_cases q3 : ((j + 1 : Nat) : Int) ∈ taken
          · rw [if_neg q1, if_pos q2, if_pos q3] at e1 e2
            have e3 := iLinkOK hN (key, 0, top, w) (by dsimp only; omega) (by dsimp only; omega)
            rw [hok] at e3
            obtain ⟨top', w', hr, hw'⟩ := hrec top taken w (by omega) hT
            refine ⟨top', w', ?_, hw'⟩
            rw [dec_t q3] at hhas
            simp (disch := omega) only [dec_t, dec_f, cond_true, cond_false, gd_true, Bool.not_true, Int.toNat_natCast, Option.bind_some, bind_id, nc1, wi_of, room_t, beq_fi, bne_fi, List.length_cons, List.length_nil, er, hpl, hpg, e1, e2, e3, hseq, hhas, hr]
          · rw [if_neg q1, if_pos q2, if_neg q3] at e1 e2
            rw [dec_f q3] at hhas
            have hT2 : TInv key top (taken ++ [((j + 1 : Nat) : Int)]) (w.set (top - ((j + 1 : Nat) : Int)).toNat true) := by
              refine ⟨ht0, ht1, by rw [List.length_set]; exact hwl, fun a ha => ?_, fun x hx => ?_, ?_⟩
              · by_cases e : (top - ((j + 1 : Nat) : Int)).toNat = a
                · subst e
                  rw [List.getElem?_set_self (by omega)]
                  refine ⟨fun _ => List.mem_append_right _ (by simp; omega), fun _ => rfl⟩
                · rw [List.getElem?_set_ne e, hT.win a ha, List.mem_append]
                  constructor
                  · exact .inl
                  · rintro (q | q)
                    · exact q
                    · simp only [List.mem_singleton] at q; omega
              · rcases List.mem_append.1 hx with q | q
                · exact hT.low x q
                · simp only [List.mem_singleton] at q; omega
              · rcases hT.has with q | q
                · omega
                · exact .inr (List.mem_append_left _ q)
            have e3 := iLinkOK hN (key, 0, top, w.set (top - ((j + 1 : Nat) : Int)).toNat true) (by dsimp only; omega) (by simp only [List.length_set]; omega)
            rw [hT2.ok hk] at e3
            obtain ⟨top', w', hr, hw'⟩ := hrec top _ _ (by simp; omega) hT2
            refine ⟨top', w', ?_, hw'⟩
            have em : max top ((j + 1 : Nat) : Int) = top := by omega
            simp (disch := omega) only [dec_t, dec_f, cond_true, cond_false, gd_true, Bool.not_true, Int.toNat_natCast, Option.bind_some, bind_id, nc1, wi_of, room_t, beq_ti, bne_fi, List.length_cons, List.length_nil, er, hpl, hpg, e1, e2, e3, hseq, hhas, em, hr]
        · rw [if_neg q1, if_neg q2] at e1 e2
          have q3 : ¬ ((j + 1 : Nat) : Int) ∈ taken := fun hc => by have := hT.low _ hc; omega
          rw [dec_f q3] at hhas
          have hT2 : TInv key ((j + 1 : Nat) : Int) (taken ++ [((j + 1 : Nat) : Int)]) ((shiftW (((j + 1 : Nat) : Int) - top).toNat w).set 0 true) := by
            have hsl := shiftW_length (((j + 1 : Nat) : Int) - top).toNat w
            refine ⟨by omega, by omega, by rw [List.length_set]; exact hsl, fun a ha => ?_, fun x hx => ?_, .inr (by simp)⟩
            · by_cases e : 0 = a
              · subst e
                rw [List.getElem?_set_self (by omega)]
                exact ⟨fun _ => List.mem_append_right _ (by simp), fun _ => rfl⟩
              · rw [List.getElem?_set_ne e, shiftW_get _ _ ha, Option.getD_some, List.mem_append]
                by_cases hd : (((j + 1 : Nat) : Int) - top).toNat ≤ a
                · rw [if_pos hd, hT.win _ (by omega), show top - ((a - (((j + 1 : Nat) : Int) - top).toNat : Nat) : Int) = ((j + 1 : Nat) : Int) - (a : Int) by omega]
                  constructor
                  · exact .inl
                  · rintro (q | q)
                    · exact q
                    · simp only [List.mem_singleton] at q; omega
                · rw [if_neg hd]
                  constructor
                  · intro hc; cases hc
                  · rintro (q | q)
                    · have := hT.low _ q; omega
                    · simp only [List.mem_singleton] at q; omega
            · rcases List.mem_append.1 hx with q | q
              · have := hT.low x q; omega
              · simp only [List.mem_singleton] at q; omega
          have hsl := shiftW_length (((j + 1 : Nat) : Int) - top).toNat w
          have e3 := iLinkOK hN (key, 0, ((j + 1 : Nat) : Int), (shiftW (((j + 1 : Nat) : Int) - top).toNat w).set 0 true) (by dsimp only; omega) (by simp only [List.length_set]; omega)
          rw [hT2.ok hk] at e3
          obtain ⟨top', w', hr, hw'⟩ := hrec _ _ _ (by simp; omega) hT2
          refine ⟨top', w', ?_, hw'⟩
          have em : max top ((j + 1 : Nat) : Int) = ((j + 1 : Nat) : Int) := by omega
          simp (disch := omega) only [dec_t, dec_f, cond_true, cond_false, gd_true, Bool.not_true, Int.toNat_natCast, Option.bind_some, bind_id, nc1, wi_of, room_t, beq_ti, bne_ti, bne_fi, List.length_cons, List.length_nil, er, hpl, hpg, e1, e2, e3, hseq, hhas, em, hr]
    · refine ⟨top, w, ?_, hT.wl⟩
      simp (disch := omega) only [dec_f, cond_false, gd_true, bind_id, nc1, wi_of, room_t, List.length_cons, List.length_nil, List.length_map]
theorem blob_l3 (N : Nat) : ∀ (n i K : Nat) (s : SrcT) (m : Nat) (acc : List UInt8), m = i + acc.length → i < n → K + 3 * i ≤ 1000000 → InS K s → m ≤ 100000 →
    ∃ s' l, g_spec_l00Src_blob__vb.l3 N n (m : Int) (acc.length : Int) s.1 s.2.1 s.2.2 acc = some (s'.1, s'.2.1, s'.2.2, l) ∧ InS (K + 3 * i) s' ∧ l.length = m
  | 0, _, _, _, _, _, _, h, _, _, _ => by omega
  | n + 1, 0, K, s, m, acc, hm, _, hK, hs, hm2 => by
    unfold g_spec_l00Src_blob__vb.l3
    refine ⟨s, acc, ?_, hs.mono (by omega), by omega⟩
    simp (disch := omega) only [dec_f, cond_false, gd_true, bind_id, nc1, wi_of, room_t, List.length_cons, List.length_nil]
  | n + 1, i + 1, K, s, m, acc, hm, h, hK, hs, hm2 => by
    unfold g_spec_l00Src_blob__vb.l3
    obtain ⟨s1, v, e1, h1, _, _⟩ := next_draw N (K := K) (by omega) hs 256 (by omega) (by omega)
    obtain ⟨s2, l, e2, h2, h3⟩ := blob_l3 N n i (K + 3) s1 m (acc ++ [wb v]) (by simp; omega) (by omega) (by omega) h1 hm2
    refine ⟨s2, l, ?_, h2.mono (by omega), h3⟩
    rw [show (s.1, s.2.1, s.2.2) = s from rfl, e1]
    rw [List.length_append, List.length_cons, List.length_nil, Nat.zero_add] at e2
    simp (disch := omega) only [dec_t, cond_true, gd_true, Option.bind_some, bind_id, nc1, wi_of, room_t, List.length_cons, List.length_nil, Nat.zero_add]
    rw [e2]
theorem blob_draw {N : Nat} (hN : 18446744073709551616 ≤ N) (code : List UInt8) (hc : code.length ≤ 1048576) : ∃ l, g_spec_BlobOf N code 32 = some l ∧ l.length = 32 := by
  obtain ⟨s, e1, h1⟩ := source_ok N code hc
  obtain ⟨s', l, e2, _, h3⟩ := blob_l3 N N 32 0 s 32 [] (by simp) (by omega) (by omega) h1 (by omega)
  refine ⟨l, ?_, h3⟩
  unfold g_spec_BlobOf g_spec_l00Src_blob__vb
  rw [List.length_nil, show ((32 : Nat) : Int) = 32 from rfl, Int.natCast_zero] at e2
  simp only [e1, Option.bind_some, e2]
theorem lkKey_length (k : List UInt8) (a b c : Int) : (lkKey k a b c).length = 32 := hmac_length _ _
theorem FnLink_true {N : Nat} (hN : 18446744073709551616 ≤ N) (code more : List UInt8) : g_laws_FnLink N code more = some true := by
  unfold g_laws_FnLink
  by_cases q1 : code.length ≤ 1048576
  · by_cases q2 : more.length ≤ 1048576
    · obtain ⟨b, e1, hb⟩ := blob_draw hN code q1
      obtain ⟨x, e2, hx0, hx1⟩ := at_draw N more q2 0 256 (by omega) (by omega) (by omega)
      obtain ⟨y, e3, hy0, hy1⟩ := at_draw N more q2 1 256 (by omega) (by omega) (by omega)
      obtain ⟨z, e4, hz0, hz1⟩ := at_draw N more q2 2 100 (by omega) (by omega) (by omega)
      rw [show ((256 : Nat) : Int) = 256 from rfl] at e2 e3 hx1 hy1
      rw [show ((100 : Nat) : Int) = 100 from rfl] at e4 hz1
      rw [show ((0 : Nat) : Int) = 0 from rfl] at e2
      rw [show ((1 : Nat) : Int) = 1 from rfl] at e3
      rw [show ((2 : Nat) : Int) = 2 from rfl] at e4
      have e5 := iLinkKey hN b hb x y z (by omega) (by omega) (by omega)
      have e6 := sLinkKey hN b hb x y z (by omega) (by omega) (by omega)
      have hkl := lkKey_length b x y z
      generalize lkKey b x y z = key at *
      have e7 := iNewLink hN key hkl
      have e8 := send_l11 hN code key key 0 0 (List.replicate 32 false) hkl N 0 [] (by omega) (by omega) (by omega) rfl
      rw [Int.natCast_zero] at e8
      have hT : TInv key 0 [] (List.replicate 32 false) := ⟨by omega, by omega, by simp, fun i hi => by
        rw [List.getElem?_replicate, if_pos hi]; simp, by simp, .inl rfl⟩
      obtain ⟨top', w', e9, hw'⟩ := take_l23 hN code key q1 hkl N 0 0 [] (List.replicate 32 false) (by omega) (by omega) (by omega) (by simp) hT
      rw [Int.natCast_zero] at e9
      have hpl : ((List.range 50).map (pk key)).length = 50 := by simp
      have hpg : ((List.range 50).map (pk key))[49]? = some (pk key 49) := by
        rw [List.getElem?_map, List.getElem?_range (by omega)]; rfl
      have e10 := iTake hN (key, 0, top', w') (50, [111, 116, 104, 101, 114], (pk key 49).2.2) (by dsimp only; omega) (by dsimp only; omega) (by simp)
      have e11 := sTake hN (key, 0, top', w') (50, [111, 116, 104, 101, 114], (pk key 49).2.2) (by dsimp only; omega) (by dsimp only; omega) (by simp)
      simp (disch := omega) only [dec_t, dec_f, cond_false, gd_true, alt_inr, Bool.not_true, Option.bind_some, bne_fi, e1, e2, e3, e4, e5, e6, e7, e8, e9, hpl, hpg, e10, e11, beq_self_eq_true]
    · simp (disch := omega) only [dec_t, dec_f, cond_true, cond_false]
  · simp (disch := omega) only [dec_t, cond_true]
theorem law_FnLink (code more : List UInt8) {p q : Prop} (_ : p) (_ : q) : ∃ N, g_laws_FnLink N code more = some true := ⟨18446744073709551616, FnLink_true (Nat.le_refl _) code more⟩
end Go.Vm

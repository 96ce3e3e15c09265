/- Plain words: numbers read back, the header's sum. · Plain words: what is put is read back. · The laws' functions: PacketSums, PacketLong. · The laws' functions: PacketPlaces. · The table of contracts, function by function. -/
import Derived.Test.YtgoonnlgjjgkiaaK2
import Derived.Test.YtgoonnlgjjgkiaaVc
set_option linter.unusedVariables false
set_option linter.unusedSimpArgs false
set_option linter.unusedSectionVars false
/-! P8 -/
set_option linter.unusedVariables false
set_option linter.unusedSimpArgs false
set_option maxRecDepth 100000
namespace Go.Vc.K

theorem val_step {v : UInt64} (c : UInt8) (h : v.toNat < 72057594037927936) : (shl64 v 8 ||| c.toUInt64).toNat = v.toNat * 256 + c.toNat := by
  have hc := c.toNat_lt
  have e1 : (shl64 v 8).toNat = v.toNat * 256 := by
    simp [shl64, Nat.shiftLeft_eq]; omega
  rw [UInt64.toNat_or, e1, UInt8.toNat_toUInt64]
  have := Nat.two_pow_add_eq_or_of_lt (i := 8) (b := c.toNat) (by omega) v.toNat
  rw [Nat.mul_comm v.toNat 256]
  exact this.symm
theorem shr64_nat (n : UInt64) {k : Nat} (h : k < 64) : (shr64 n k).toNat = n.toNat / 2 ^ k := by
  rw [shr64, if_pos h, UInt64.toNat_shiftRight, UInt64.toNat_ofNat', Nat.shiftRight_eq_div_pow]
  congr 2; omega
theorem getD_num (n : UInt64) (k : Nat) (r : List UInt8) {j : Nat} (h : j < k) : (num n k ++ r).getD j 0 = (shr64 n (8 * (k - 1 - j))).toUInt8 := by
  have hl := num_len n k
  rw [List.getD_eq_getElem?_getD, List.getElem?_append_left (by omega)]
  simp [num, numB, h]
theorem valF_num (n : UInt64) (k : Nat) (hk : k ≤ 8) (r : List UInt8) : ∀ j, j ≤ k → (valF (num n k ++ r) j).toNat = n.toNat / 2 ^ (8 * (k - j)) % 2 ^ (8 * j)
  | 0, _ => by simp [valF, iter, Nat.mod_one]
  | j + 1, h => by
    have i := valF_num n k hk r j (by omega)
    have e : valF (num n k ++ r) (j + 1) = shl64 (valF (num n k ++ r) j) 8 ||| ((num n k ++ r).getD j 0).toUInt64 := rfl
    have hb : n.toNat / 2 ^ (8 * (k - j)) % 2 ^ (8 * j) < 72057594037927936 := by
      refine Nat.lt_of_lt_of_le (Nat.mod_lt _ (Nat.pow_pos (by decide))) ?_
      exact Nat.pow_le_pow_right (n := 2) (by decide) (by omega : 8 * j ≤ 56)
    rw [e, val_step _ (by rw [i]; exact hb), i, getD_num n k r (by omega), UInt64.toNat_toUInt8, shr64_nat n (by omega)]
    have e1 : k - (j + 1) = k - 1 - j := by omega
    have e2 : 8 * (k - j) = 8 * (k - 1 - j) + 8 := by omega
    have e3 : 8 * (j + 1) = 8 + 8 * j := by omega
    rw [e1, e2, e3, Nat.pow_add 2 (8 * (k - 1 - j)) 8, ← Nat.div_div_eq_div_mul, Nat.pow_add 2 8 (8 * j), Nat.mod_mul]
    omega
theorem valF_num8 (n : UInt64) (r : List UInt8) : valF (num n 8 ++ r) 8 = n := by
  apply UInt64.toNat_inj.1
  rw [valF_num n 8 (by omega) r 8 (by omega)]
  have := n.toNat_lt
  simp
theorem valF_num4 (n : UInt64) (r : List UInt8) : valF (num (shr64 n 32) 4 ++ r) 4 = shr64 n 32 := by
  apply UInt64.toNat_inj.1
  rw [valF_num _ 4 (by omega) r 4 (by omega), shr64_nat _ (by omega)]
  have := n.toNat_lt
  simp; omega

/-! sums -/
theorem sumP_nat (b : List UInt8) : (sumP b).toNat = 65535 - canon (wsum b b.length) := by
  obtain ⟨h, hb⟩ := sumF_canon b b.length
  unfold sumP
  rw [UInt16.toNat_not, UInt32.toNat_toUInt16, Nat.mod_eq_of_lt (by omega), h]
  rfl
theorem num2 (n : UInt64) : num n 2 = [(shr64 n 8).toUInt8, (shr64 n 0).toUInt8] := rfl
theorem ex_cons {n : Nat} {b : List UInt8} (h : n + 1 ≤ b.length) : ∃ a r, b = a :: r ∧ n ≤ r.length := by
  cases b with
  | nil => simp at h
  | cons a r => exact ⟨a, r, rfl, by simpa using h⟩
theorem sum_summed (b : List UInt8) (h : 20 ≤ b.length) : sumP ((summedB b).take 20) = 0 := by
  obtain ⟨a0, r0, rfl, h0⟩ := ex_cons h
  obtain ⟨a1, r1, rfl, h1⟩ := ex_cons h0
  obtain ⟨a2, r2, rfl, h2⟩ := ex_cons h1
  obtain ⟨a3, r3, rfl, h3⟩ := ex_cons h2
  obtain ⟨a4, r4, rfl, h4⟩ := ex_cons h3
  obtain ⟨a5, r5, rfl, h5⟩ := ex_cons h4
  obtain ⟨a6, r6, rfl, h6⟩ := ex_cons h5
  obtain ⟨a7, r7, rfl, h7⟩ := ex_cons h6
  obtain ⟨a8, r8, rfl, h8⟩ := ex_cons h7
  obtain ⟨a9, r9, rfl, h9⟩ := ex_cons h8
  obtain ⟨a10, r10, rfl, h10⟩ := ex_cons h9
  obtain ⟨a11, r11, rfl, h11⟩ := ex_cons h10
  obtain ⟨a12, r12, rfl, h12⟩ := ex_cons h11
  obtain ⟨a13, r13, rfl, h13⟩ := ex_cons h12
  obtain ⟨a14, r14, rfl, h14⟩ := ex_cons h13
  obtain ⟨a15, r15, rfl, h15⟩ := ex_cons h14
  obtain ⟨a16, r16, rfl, h16⟩ := ex_cons h15
  obtain ⟨a17, r17, rfl, h17⟩ := ex_cons h16
  obtain ⟨a18, r18, rfl, h18⟩ := ex_cons h17
  obtain ⟨a19, r19, rfl, h19⟩ := ex_cons h18
  generalize r19 = r
  have ez : zeroed (a0 :: a1 :: a2 :: a3 :: a4 :: a5 :: a6 :: a7 :: a8 :: a9 :: a10 :: a11 :: a12 :: a13 :: a14 :: a15 :: a16 :: a17 :: a18 :: a19 :: r) =
    a0 :: a1 :: a2 :: a3 :: a4 :: a5 :: a6 :: a7 :: a8 :: a9 :: 0 :: 0 :: a12 :: a13 :: a14 :: a15 :: a16 :: a17 :: a18 :: a19 :: r := rfl
  unfold summedB
  rw [ez]
  have et : (a0 :: a1 :: a2 :: a3 :: a4 :: a5 :: a6 :: a7 :: a8 :: a9 :: 0 :: 0 :: a12 :: a13 :: a14 :: a15 :: a16 :: a17 :: a18 :: a19 :: r).take 20 =
    [a0, a1, a2, a3, a4, a5, a6, a7, a8, a9, 0, 0, a12, a13, a14, a15, a16, a17, a18, a19] := rfl
  rw [et, num2]
  have h1 := sumP_nat [a0, a1, a2, a3, a4, a5, a6, a7, a8, a9, 0, 0, a12, a13, a14, a15, a16, a17, a18, a19]
  generalize hc : sumP [a0, a1, a2, a3, a4, a5, a6, a7, a8, a9, 0, 0, a12, a13, a14, a15, a16, a17, a18, a19] = c at *
  have hcl := c.toNat_lt
  have e1 : ((shr64 c.toUInt64 8).toUInt8).toNat = c.toNat / 256 := by
    rw [UInt64.toNat_toUInt8, shr64_nat _ (by omega), UInt16.toNat_toUInt64]
    show c.toNat / 256 % 256 = _
    omega
  have e0 : ((shr64 c.toUInt64 0).toUInt8).toNat = c.toNat % 256 := by
    rw [UInt64.toNat_toUInt8, shr64_nat _ (by omega), UInt16.toNat_toUInt64]
    show c.toNat / 1 % 256 = _
    omega
  generalize (shr64 c.toUInt64 8).toUInt8 = x1 at *
  generalize (shr64 c.toUInt64 0).toUInt8 = x0 at *
  have es : (splice (a0 :: a1 :: a2 :: a3 :: a4 :: a5 :: a6 :: a7 :: a8 :: a9 :: 0 :: 0 :: a12 :: a13 :: a14 :: a15 :: a16 :: a17 :: a18 :: a19 :: r) 10 [x1, x0]).take 20 =
    [a0, a1, a2, a3, a4, a5, a6, a7, a8, a9, x1, x0, a12, a13, a14, a15, a16, a17, a18, a19] := rfl
  rw [es]
  apply UInt16.toNat_inj.1
  rw [sumP_nat]
  simp only [List.length_cons, List.length_nil, wsum, List.getD_cons_zero, List.getD_cons_succ] at h1 ⊢
  simp (config := { decide := true }) only [if_true, if_false] at h1 ⊢
  have hz : (0 : UInt8).toNat = 0 := rfl
  have hz' : (0 : UInt16).toNat = 0 := rfl
  rw [hz] at h1
  rw [hz']
  have key : ∀ S : Nat, c.toNat = 65535 - canon S → canon (S + c.toNat) = 65535 := by
    intro S h; unfold canon at *; split at h <;> split <;> omega
  have hx : 256 * x1.toNat + x0.toNat = c.toNat := by omega
  have k2 := key _ h1
  rw [← hx] at k2
  rw [Nat.sub_eq_zero_iff_le]
  refine Nat.le_of_eq (Eq.trans k2.symm ?_)
  congr 1
  omega
end Go.Vc.K

/-! P8b -/
set_option linter.unusedVariables false
set_option linter.unusedSimpArgs false
set_option maxRecDepth 100000
namespace Go.Vc.K

theorem val_num (n : UInt64) (k : Nat) (hk : k ≤ 8) : (val (num n k)).toNat = n.toNat % 2 ^ (8 * k) := by
  have := valF_num n k hk [] k (by omega)
  rw [List.append_nil, Nat.sub_self, Nat.mul_zero, Nat.pow_zero, Nat.div_one] at this
  unfold val
  rw [num_len]; exact this
theorem val_num8 (n : UInt64) : val (num n 8) = n := by
  apply UInt64.toNat_inj.1
  rw [val_num n 8 (by omega)]
  have := n.toNat_lt
  exact Nat.mod_eq_of_lt this
theorem val_num4 (n : UInt64) (h : n.toNat < 4294967296) : val (num n 4) = n := by
  apply UInt64.toNat_inj.1
  rw [val_num n 4 (by omega)]
  exact Nat.mod_eq_of_lt h
theorem val_num2 (n : UInt64) (h : n.toNat < 65536) : val (num n 2) = n := by
  apply UInt64.toNat_inj.1
  rw [val_num n 2 (by omega)]
  exact Nat.mod_eq_of_lt h
theorem rightP_6 {p : Pk} (h : rightP p = true) (hv : p.v6 = true) : p.sv = true ∧ p.dv = true ∧ p.fl.toNat ≤ 1048575 ∧ p.id = 0 ∧ p.fr = 0 := by
  unfold rightP at h
  rw [if_pos hv] at h
  simp only [Bool.and_eq_true, decide_eq_true_eq] at h
  obtain ⟨h1, h2, h3, h4, h5, h6, h7⟩ := h
  exact ⟨h1.trans hv, h2.trans hv, h5, h6, h7⟩
theorem rightP_4 {p : Pk} (h : rightP p = true) (hv : p.v6 = false) : p.sv = false ∧ p.dv = false ∧ p.fl = 0 ∧ p.sl = 0 ∧ p.dl = 0 ∧ p.sh &&& 4294967295 = 0 ∧ p.dh &&& 4294967295 = 0 := by
  unfold rightP at h
  rw [if_neg (by rw [hv]; exact Bool.false_ne_true)] at h
  simp only [Bool.and_eq_true, decide_eq_true_eq] at h
  obtain ⟨h1, h2, h3, h4, h5⟩ := h
  rw [hv] at h1 h2
  rw [h1] at h3; rw [h2] at h4
  simp only [rightA, Bool.false_or, Bool.and_eq_true, decide_eq_true_eq] at h3 h4
  exact ⟨h1, h2, h5, h3.1, h4.1, h3.2, h4.2⟩
theorem word6 (cl : UInt8) (fl : UInt32) (h : fl.toNat ≤ 1048575) : (1610612736 ||| shl64 cl.toUInt64 20 ||| fl.toUInt64 : UInt64).toNat = 1610612736 + cl.toNat * 1048576 + fl.toNat := by
  have hc := cl.toNat_lt
  have e1 : (shl64 cl.toUInt64 20).toNat = cl.toNat * 1048576 := by
    simp [shl64, Nat.shiftLeft_eq]; omega
  rw [UInt64.toNat_or, UInt64.toNat_or, e1, UInt32.toNat_toUInt64]
  have a1 := Nat.two_pow_add_eq_or_of_lt (i := 28) (b := cl.toNat * 1048576) (by omega) 6
  have e2 : (1610612736 : UInt64).toNat = 2 ^ 28 * 6 := by decide
  rw [e2, ← a1]
  have a2 := Nat.two_pow_add_eq_or_of_lt (i := 20) (b := fl.toNat) (by omega) (256 * 6 + cl.toNat)
  have e3 : 2 ^ 28 * 6 + cl.toNat * 1048576 = 2 ^ 20 * (256 * 6 + cl.toNat) := by omega
  rw [e3, ← a2]
theorem back6 {p : Pk} (h : rightP p = true) (hv : p.v6 = true) (hl : p.b.length ≤ 1360) : parE (put6 p) = 0 ∧ parP (put6 p) = p ∧ (put6 p).length = 40 + p.b.length := by
  obtain ⟨h1, h2, h3, h4, h5⟩ := rightP_6 h hv
  obtain ⟨v6, cl, fl, id, fr, tt, pr, sv, sh, sl, dv, dh, dl, b⟩ := p
  simp only at hv h1 h2 h3 h4 h5 hl
  subst hv h1 h2 h4 h5
  generalize hp : (⟨true, cl, fl, 0, 0, tt, pr, true, sh, sl, true, dh, dl, b⟩ : Pk) = p
  have hlen : (put6 p).length = 40 + b.length := by
    rw [put6_len, ← hp]; simp only [addrB_len, if_true]; omega
  have hW := word6 cl fl h3
  have hc := cl.toNat_lt
  generalize hw : (1610612736 ||| shl64 cl.toUInt64 20 ||| fl.toUInt64 : UInt64) = W at *
  have d0 : (put6 p).getD 0 0 = (shr64 W 24).toUInt8 := by rw [← hp, ← hw]; rfl
  have d6 : (put6 p).getD 6 0 = pr := by rw [← hp]; rfl
  have d7 : (put6 p).getD 7 0 = tt := by rw [← hp]; rfl
  have t4 : (put6 p).take 4 = num W 4 := by rw [← hp, ← hw]; rfl
  have t2 : ((put6 p).drop 4).take 2 = num (UInt64.ofNat b.length) 2 := by rw [← hp]; rfl
  have t8 : ((put6 p).drop 8).take 16 = num sh 8 ++ num sl 8 := by rw [← hp]; rfl
  have t24 : ((put6 p).drop 24).take 16 = num dh 8 ++ num dl 8 := by rw [← hp]; rfl
  have t40 : (put6 p).drop 40 = b := by rw [← hp]; rfl
  have hs : is6 (put6 p) := by
    refine ⟨by omega, ?_⟩
    rw [d0]
    apply UInt8.toNat_inj.1
    have e : (shr8 (shr64 W 24).toUInt8 4).toNat = (shr64 W 24).toUInt8.toNat / 16 := by
      simp [shr8, Nat.shiftRight_eq_div_pow]
    rw [e, UInt64.toNat_toUInt8, shr64_nat _ (by omega), hW]
    show _ = 6
    omega
  have hE : par6E (put6 p) = 0 := by
    unfold par6E
    rw [if_neg]
    rintro (x | x)
    · omega
    · rw [t2, hlen, val_num2 _ (by rw [ofNat_nat (by omega)]; omega)] at x
      exact x (by congr 1; omega)
  have e1 : parE (put6 p) = 0 := by unfold parE; rw [if_neg (by omega), if_pos hs]; exact hE
  refine ⟨e1, ?_, by rw [hlen, ← hp]⟩
  unfold parP
  rw [if_neg (by omega), if_pos hs]
  unfold par6P
  rw [if_pos hE, d6, d7, t4, t8, t24, t40, val_num4 W (by omega)]
  have n1 : (num sh 8 ++ num sl 8).length = 16 := by rw [List.length_append, num_len, num_len]
  have n2 : (num dh 8 ++ num dl 8).length = 16 := by rw [List.length_append, num_len, num_len]
  have x1 : rdV (num sh 8 ++ num sl 8) = true := by rw [rdV, n1]; rfl
  have x2 : rdV (num dh 8 ++ num dl 8) = true := by rw [rdV, n2]; rfl
  have y1 : rdH (num sh 8 ++ num sl 8) = sh := by
    rw [rdH, n1, if_neg (by decide)]
    have : (num sh 8 ++ num sl 8).take 8 = num sh 8 := rfl
    rw [this, val_num8]
  have y2 : rdH (num dh 8 ++ num dl 8) = dh := by
    rw [rdH, n2, if_neg (by decide)]
    have : (num dh 8 ++ num dl 8).take 8 = num dh 8 := rfl
    rw [this, val_num8]
  have z1 : rdL (num sh 8 ++ num sl 8) = sl := by
    rw [rdL, n1, if_neg (by decide)]
    have : (num sh 8 ++ num sl 8).drop 8 = num sl 8 := rfl
    rw [this, val_num8]
  have z2 : rdL (num dh 8 ++ num dl 8) = dl := by
    rw [rdL, n2, if_neg (by decide)]
    have : (num dh 8 ++ num dl 8).drop 8 = num dl 8 := rfl
    rw [this, val_num8]
  have c1 : (shr64 W 20).toUInt8 = cl := by
    apply UInt8.toNat_inj.1
    rw [UInt64.toNat_toUInt8, shr64_nat _ (by omega), hW]
    omega
  have c2 : (W &&& 1048575).toUInt32 = fl := by
    apply UInt32.toNat_inj.1
    rw [UInt64.toNat_toUInt32, UInt64.toNat_and, hW]
    have : (1048575 : UInt64).toNat = 2 ^ 20 - 1 := by decide
    rw [this, Nat.and_two_pow_sub_one_eq_mod]
    omega
  rw [x1, x2, y1, y2, z1, z2, c1, c2, hp]

/-- a header that is summed is what its sum makes of it -/
theorem summed_summed (b : List UInt8) (h : 20 ≤ b.length) : summedB (summedB b) = summedB b := by
  obtain ⟨a0, r0, rfl, h0⟩ := ex_cons h
  obtain ⟨a1, r1, rfl, h1⟩ := ex_cons h0
  obtain ⟨a2, r2, rfl, h2⟩ := ex_cons h1
  obtain ⟨a3, r3, rfl, h3⟩ := ex_cons h2
  obtain ⟨a4, r4, rfl, h4⟩ := ex_cons h3
  obtain ⟨a5, r5, rfl, h5⟩ := ex_cons h4
  obtain ⟨a6, r6, rfl, h6⟩ := ex_cons h5
  obtain ⟨a7, r7, rfl, h7⟩ := ex_cons h6
  obtain ⟨a8, r8, rfl, h8⟩ := ex_cons h7
  obtain ⟨a9, r9, rfl, h9⟩ := ex_cons h8
  obtain ⟨a10, r10, rfl, h10⟩ := ex_cons h9
  obtain ⟨a11, r11, rfl, h11⟩ := ex_cons h10
  obtain ⟨a12, r12, rfl, h12⟩ := ex_cons h11
  obtain ⟨a13, r13, rfl, h13⟩ := ex_cons h12
  obtain ⟨a14, r14, rfl, h14⟩ := ex_cons h13
  obtain ⟨a15, r15, rfl, h15⟩ := ex_cons h14
  obtain ⟨a16, r16, rfl, h16⟩ := ex_cons h15
  obtain ⟨a17, r17, rfl, h17⟩ := ex_cons h16
  obtain ⟨a18, r18, rfl, h18⟩ := ex_cons h17
  obtain ⟨a19, r19, rfl, h19⟩ := ex_cons h18
  rfl
theorem hi_back (h : UInt64) (e : h &&& 4294967295 = 0) : shl64 (shr64 h 32) 32 = h := by
  apply UInt64.toNat_inj.1
  have h2 : h.toNat % 4294967296 = 0 := by
    have := congrArg UInt64.toNat e
    rw [UInt64.toNat_and] at this
    have e2 : (4294967295 : UInt64).toNat = 2 ^ 32 - 1 := by decide
    rw [e2, Nat.and_two_pow_sub_one_eq_mod] at this
    exact this
  have hb := h.toNat_lt
  have e1 : (shl64 (shr64 h 32) 32).toNat = (shr64 h 32).toNat * 4294967296 % 18446744073709551616 := by
    simp [shl64, Nat.shiftLeft_eq]
  rw [e1, shr64_nat _ (by omega)]
  omega
theorem back4 {p : Pk} (h : rightP p = true) (hv : p.v6 = false) (hl : p.b.length ≤ 1380) : parE (put4 p) = 0 ∧ parP (put4 p) = p ∧ (put4 p).length = 20 + p.b.length := by
  obtain ⟨h1, h2, h3, h4, h5, h6, h7⟩ := rightP_4 h hv
  obtain ⟨v6, cl, fl, id, fr, tt, pr, sv, sh, sl, dv, dh, dl, b⟩ := p
  simp only at hv h1 h2 h3 h4 h5 h6 h7 hl
  subst hv h1 h2 h3 h4 h5
  generalize hp : (⟨false, cl, 0, id, fr, tt, pr, false, sh, 0, false, dh, 0, b⟩ : Pk) = p
  have hlen : (put4 p).length = 20 + b.length := by
    rw [put4_len, ← hp]; simp only [addrB_len, Bool.false_eq_true, if_false]; omega
  have hr : 20 ≤ (raw4 p).length := by rw [← hp]; simp [raw4, num_len, addrB_len]; omega
  have d0 : (put4 p).getD 0 0 = 69 := by rw [← hp]; rfl
  have d1 : (put4 p).getD 1 0 = cl := by rw [← hp]; rfl
  have d8 : (put4 p).getD 8 0 = tt := by rw [← hp]; rfl
  have d9 : (put4 p).getD 9 0 = pr := by rw [← hp]; rfl
  have t2 : ((put4 p).drop 2).take 2 = num (UInt64.ofNat (20 + b.length)) 2 := by rw [← hp]; rfl
  have t4 : ((put4 p).drop 4).take 2 = num id.toUInt64 2 := by rw [← hp]; rfl
  have t6 : ((put4 p).drop 6).take 2 = num fr.toUInt64 2 := by rw [← hp]; rfl
  have t12 : ((put4 p).drop 12).take 4 = num (shr64 sh 32) 4 := by rw [← hp]; rfl
  have t16 : ((put4 p).drop 16).take 4 = num (shr64 dh 32) 4 := by rw [← hp]; rfl
  have t20 : (put4 p).drop 20 = b := by rw [← hp]; rfl
  have hs : ¬ is6 (put4 p) := by
    rintro ⟨_, x⟩
    rw [d0] at x
    exact absurd x (by decide)
  have hE : par4E (put4 p) = 0 := by
    unfold par4E
    rw [if_neg, if_neg]
    · exact fun x => x (summed_summed _ hr)
    rintro (x | x | x)
    · omega
    · exact x d0
    · rw [t2, hlen, val_num2 _ (by rw [ofNat_nat (by omega)]; omega)] at x
      exact x rfl
  have e1 : parE (put4 p) = 0 := by unfold parE; rw [if_neg (by omega), if_neg hs]; exact hE
  refine ⟨e1, ?_, by rw [hlen, ← hp]⟩
  unfold parP
  rw [if_neg (by omega), if_neg hs]
  unfold par4P
  have i1 := id.toNat_lt
  have i2 := fr.toNat_lt
  rw [if_pos hE, d1, d8, d9, t4, t6, t12, t16, t20, val_num2 id.toUInt64 (by simpa using i1), val_num2 fr.toUInt64 (by simpa using i2)]
  have q : ∀ h : UInt64, h &&& 4294967295 = 0 → rdV (num (shr64 h 32) 4) = false ∧ rdH (num (shr64 h 32) 4) = h ∧ rdL (num (shr64 h 32) 4) = 0 := by
    intro h e
    refine ⟨by rw [rdV, num_len]; rfl, ?_, by rw [rdL, num_len]; rfl⟩
    rw [rdH, num_len, if_pos rfl, val_num4 _ (by rw [shr64_nat _ (by omega)]; have := h.toNat_lt; omega), hi_back h e]
  obtain ⟨x1, y1, z1⟩ := q sh h6
  obtain ⟨x2, y2, z2⟩ := q dh h7
  rw [x1, x2, y1, y2, z1, z2]
  have c1 : id.toUInt64.toUInt16 = id := by apply UInt16.toNat_inj.1; simp
  have c2 : fr.toUInt64.toUInt16 = fr := by apply UInt16.toNat_inj.1; simp
  rw [c1, c2, hp]
/-- what is put is read back -/
theorem readBack {p : Pk} (h : putE p = 0) : parE (putB p) = 0 ∧ parP (putB p) = p ∧ (putB p).length = (if p.v6 = true then 40 else 20) + p.b.length ∧ rightP p = true := by
  have hB : putB p = if p.v6 = true then put6 p else put4 p := by unfold putB; rw [if_pos h]
  unfold putE at h
  by_cases hr : rightP p = false
  · rw [if_pos hr] at h; omega
  rw [if_neg hr] at h
  have hr : rightP p = true := by simpa using hr
  by_cases hl : 1400 < (if p.v6 = true then 40 else 20) + p.b.length
  · rw [if_pos hl] at h; omega
  rw [hB]
  by_cases hv : p.v6 = true
  · rw [if_pos hv] at hl ⊢
    rw [if_pos hv]
    obtain ⟨a, b, c⟩ := back6 hr hv (by omega)
    exact ⟨a, b, c, hr⟩
  · rw [if_neg hv] at hl ⊢
    rw [if_neg hv]
    obtain ⟨a, b, c⟩ := back4 hr (by simpa using hv) (by omega)
    exact ⟨a, b, c, hr⟩
end Go.Vc.K

/-! P9 -/
set_option linter.unusedVariables false
set_option linter.unusedSimpArgs false
set_option maxRecDepth 100000
namespace Go.Vc.K

theorem vc5 {Γ : Ctr} (h12 : ∀ a, Γ 12 a [] = con12 a) (h22 : ∀ a, Γ 22 a [] = con22 a) (h23 : ∀ a, Γ 23 a [] = con23 a) (b : List UInt8) (m : UInt16) (hbl : b.length < 9223372036854775808) :
    VcFn Γ rs5 mc5 [.sl false (.b8 b), .u16 m] ⟨True, .bool true, [], []⟩ := by
  refine fn_i rfl ?_
  unfold mc5
  have hi : m.toNat % (b.length + 1) ≤ b.length := by have := Nat.mod_lt m.toNat (show 0 < b.length + 1 by omega); omega
  generalize hq : m.toNat % (b.length + 1) = q at *
  have l1 : (b.take q).length = q := by simp; omega
  have l2 : (b.drop q).length = b.length - q := by simp
  have e1 : b.take q ++ b.drop q = b := List.take_append_drop q b
  (repeat' (first | (with_reducible first | refine vi_then ?_ | refine vi_seq ?_ | refine vi_skip ?_ | refine vi_block ?_ | refine vi_blkN ?_ | refine vi_exit ?_ | refine vi_thenE ?_ | refine vi_blkE ?_ | refine vi_blkX rfl ?_ | refine vi_ret ?_ | refine vi_thenR ?_ | refine vi_blkR ?_ | refine fn_ret ?_ | refine fn_nor ?_) | (with_reducible refine vi_cond fun X Y hX hY => ?_; (simp only [ev, tget, if_true, if_false, Nat.reduceEqDiff, reduceCtorEq, decide_eq_true_eq, decide_eq_false_iff_not, Bool.true_eq_false, Bool.false_eq_true, Nat.not_lt, Nat.not_le, Int.not_lt, Int.not_le, not_true_eq_false, not_false_eq_true, ne_eq, Decidable.not_not, gt_iff_lt, ge_iff_le, Bool.not_eq_true', Bool.not_eq_false', Bool.not_eq_true, Bool.not_eq_false, Nat.reduceLT, Nat.reduceLeDiff, Bool.not_not, true_implies, false_implies, implies_true, and_true, true_and, forall_const, Bool.true_eq_false, Nat.lt_irrefl, Int.natCast_nonneg, Nat.zero_le, beq_t, beq_f, Bool.not_true, Bool.not_false, Bool.not_eq_eq_eq_not]); (first | (refine And.intro (fun hc => ?_) (fun hc => ?_)) | skip); all_goals ((first | refine hX ?_ | refine hY ?_); clear hX hY; clear X Y; (try (exfalso; omega; done)))) | ((with_reducible first | refine vi_reg fun K hK => ?_ | refine vi_regD fun K hK => ?_) <;> (simp only [VcFn, vcG, vcGD, core, ev, tget, mget, mset, msets, setT, keep, okv, fail, bin, binI, un, conv, shift, ixN, lenOf, content, Cells.asK, bnds, appR, eqr, eqc, eqvs, eqv, kOk, kOks, disj_nil, disj_cons, nmem_cons, true_or, or_true, or_false, false_or, all_lt0, all_lt1, all_lt2, Cells.nf, Cells.sc,
  AV.one, AV.num, AV.sc, Cells.rd, Cells.get, Cells.put, Cells.puts, Cells.count, Cells.len, Cells.esz, Cells.sub, Cells.part, Cells.app, Cells.has, Cells.recOk, Cells.win, Cells.toL, Cells.whole, Kd.nil, Kd.esz, tyC, un8, un32, un64, unN, unS, unR, zeroC, fillL, minL, minA,
  callR, coe, pur, purP, keysOf, resOk, resOkC, ren, renC, back, fkey, unB, isB,
  List.mapIdx_cons, List.mapIdx_nil, List.map_cons, List.map_nil, List.flatMap_cons, List.flatMap_nil, List.all_cons, List.all_nil, List.append_nil, List.nil_append, List.cons_append, List.length_cons, List.length_nil, List.length_replicate, List.forall_mem_cons, List.not_mem_nil, Option.getD_none, Option.getD_some, Option.map_some, Option.map_none, Function.comp, Nat.reduceEqDiff, Nat.reduceAdd, Nat.reduceMul, Nat.reduceLT, Nat.reduceLeDiff, Nat.reduceSub, Nat.reduceDiv, Nat.reduceMod, Nat.not_lt_zero, reduceCtorEq,
  ↓reduceIte, if_true, if_false, ite_true, ite_false, true_and, and_true, and_self, not_true_eq_false, not_false_eq_true, forall_const, true_implies, false_implies, implies_true, Nat.zero_add, Nat.add_zero, Nat.mul_one, Nat.zero_mul, Bool.true_eq_false, Bool.false_eq_true, Bool.not_true, Bool.not_false, Bool.and_true, Bool.true_and, Bool.and_self, eq_self, Nat.sub_zero, Nat.div_one, Nat.mod_one, List.set_cons_zero, List.set_cons_succ, List.getD_cons_zero, List.getD_cons_succ, Int.toNat_sub, Int.toNat_natCast, Nat.zero_le, List.drop_zero, List.drop_succ_cons, List.take_succ_cons, List.take_zero, List.take_length, List.length_append, List.take_left, List.length_set, List.take_of_length_le, Nat.le_refl, ne_eq, decide_true, decide_false, bne_self_eq_false, beq_self_eq_true, beq_t, beq_f, List.forall_mem_map, List.map_map, List.all_map, List.map_id', List.length_map, Function.comp_def, all_true, decide_eq_true_eq, decide_eq_false_iff_not, splice_all, part_end, Nat.add_sub_cancel, Nat.add_sub_cancel_left, UInt64.reduceToNat, UInt32.reduceToNat, UInt8.reduceToNat, Ctr.add, noCon, h12, con12, h22, con22, h23, con23, hq, total_cons, total_nil, List.flatten_cons, List.flatten_nil, l1, l2, e1]) <;> (repeat' (first | apply And.intro | intro _ | with_reducible refine ite_i ?_ ?_)) <;> (first | (refine hK _ _ ?_; clear hK; clear K) | exact trivial | with_reducible assumption | omega))))
  · refine ⟨?_, .inl rfl, [], ?_⟩ <;> ((try simp only [Out, rv1, resT, meBack, LE, leT, leM, leA, leA1, leC, images, keysA, rho, tget, mget, okv, Cells.rd, Cells.has, Cells.recOk, Cells.len, Cells.count, Cells.win, Cells.part, Cells.sub, Cells.esz, Cells.rf, AV.rf, List.forall_mem_cons, List.not_mem_nil, false_implies, implies_true, forall_const, List.length_cons, List.length_nil, List.length_replicate, Nat.reduceAdd, Nat.zero_add, List.mapIdx_cons, List.mapIdx_nil, List.map_cons, List.map_nil, List.zip_cons_cons, List.zip_nil_right, if_true, true_or, true_and, and_true, and_self, List.nodup_nil, List.nil_append, List.append_nil, List.cons_append, List.nodup_cons, List.mem_cons, forall_eq, forall_eq_or_imp, or_false, or_self, not_false_eq_true, if_false, Nat.reduceEqDiff, reduceCtorEq, Option.isSome_some, Option.getD_none, Option.getD_some, eq_self, Nat.add_zero, Nat.div_one, Nat.mod_one, Nat.zero_div, List.drop_zero, Nat.sub_zero, Nat.lt_one_iff, Nat.le_refl, List.take_length, Nat.reduceLeDiff, Nat.reduceLT, Nat.mul_one, Nat.zero_lt_one, Bool.false_eq_true, List.take_of_length_le, List.length_append, List.length_set, rs5]) <;> (repeat' apply And.intro) <;> first | with_reducible rfl | omega | with_reducible assumption | exact rfl | (congr 1; omega) | (congr 2; omega))
  · refine ⟨?_, .inl rfl, [], ?_⟩ <;> ((try simp only [Out, rv1, resT, meBack, LE, leT, leM, leA, leA1, leC, images, keysA, rho, tget, mget, okv, Cells.rd, Cells.has, Cells.recOk, Cells.len, Cells.count, Cells.win, Cells.part, Cells.sub, Cells.esz, Cells.rf, AV.rf, List.forall_mem_cons, List.not_mem_nil, false_implies, implies_true, forall_const, List.length_cons, List.length_nil, List.length_replicate, Nat.reduceAdd, Nat.zero_add, List.mapIdx_cons, List.mapIdx_nil, List.map_cons, List.map_nil, List.zip_cons_cons, List.zip_nil_right, if_true, true_or, true_and, and_true, and_self, List.nodup_nil, List.nil_append, List.append_nil, List.cons_append, List.nodup_cons, List.mem_cons, forall_eq, forall_eq_or_imp, or_false, or_self, not_false_eq_true, if_false, Nat.reduceEqDiff, reduceCtorEq, Option.isSome_some, Option.getD_none, Option.getD_some, eq_self, Nat.add_zero, Nat.div_one, Nat.mod_one, Nat.zero_div, List.drop_zero, Nat.sub_zero, Nat.lt_one_iff, Nat.le_refl, List.take_length, Nat.reduceLeDiff, Nat.reduceLT, Nat.mul_one, Nat.zero_lt_one, Bool.false_eq_true, List.take_of_length_le, List.length_append, List.length_set, rs5]) <;> (repeat' apply And.intro) <;> first | with_reducible rfl | omega | with_reducible assumption | exact rfl | (congr 1; omega) | (congr 2; omega))

theorem e5 : ((5 : UInt8) = 0) = False := by simp
/-- the law's packet -/
def pl (v6 : Bool) (m : Nat) : Pk := ⟨v6, 0, 0, 0, 0, 9, 0, v6, 0, 0, v6, 0, 0, List.replicate m 0⟩
theorem pl_E (v6 : Bool) (m : Nat) : putE (pl v6 m) = if 1400 < (if v6 = true then 40 else 20) + m then 23 else 0 := by
  have hr : rightP (pl v6 m) = true := by cases v6 <;> simp [rightP, pl, rightA]
  unfold putE
  rw [hr, if_neg (by decide)]
  show (if 1400 < (if v6 = true then 40 else 20) + (List.replicate m (0 : UInt8)).length then 23 else 0) = _
  rw [List.length_replicate]
theorem zeros_E (m : Nat) (h : 0 < m) : parE (List.replicate m 0) = if 1400 < m then 23 else 20 := by
  have hz : (List.replicate m (0 : UInt8)).getD 0 0 = 0 := by simp [List.getD_eq_getElem?_getD, h]
  have hs : ¬ is6 (List.replicate m 0) := by
    rintro ⟨_, x⟩
    rw [hz] at x
    exact absurd x (by decide)
  unfold parE
  rw [List.length_replicate, if_neg hs]
  have : par4E (List.replicate m 0) = 20 := by unfold par4E; rw [if_pos (.inr (.inl (by rw [hz]; decide)))]
  rw [this]
theorem vc7 {Γ : Ctr} (h12 : ∀ a, Γ 12 a [] = con12 a) (h14 : ∀ a, Γ 14 a [] = con14 a) (h16 : ∀ a, Γ 16 a [] = con16 a) (n : UInt8) (v6 : Bool) :
    VcFn Γ rs7 mc7 [.u8 n, .bool v6] ⟨True, .bool true, [], []⟩ := by
  refine fn_i rfl ?_
  unfold mc7
  have hk : (n % 5).toNat < 5 := by have := Nat.mod_lt n.toNat (show 0 < 5 by omega); simpa using this
  generalize hn : (n % 5).toNat = k at *
  have m1 : (((1400 : Nat) : Int) - ((40 : Nat) : Int) + ((k : Int) - ((2 : Nat) : Int))).toNat = 1358 + k := by omega
  have m2 : (((1400 : Nat) : Int) - ((20 : Nat) : Int) + ((k : Int) - ((2 : Nat) : Int))).toNat = 1378 + k := by omega
  have m3 : (((1400 : Nat) : Int) + ((k : Int) - ((2 : Nat) : Int))).toNat = 1398 + k := by omega
  have z := zeros_E (1398 + k) (by omega)
  have l0 : ∀ m, (pl v6 m).b.length = m := fun m => List.length_replicate
  by_cases h2 : 2 < k
  · rw [if_pos (by omega)] at z
    cases v6
    · have e := pl_E false (1378 + k)
      rw [if_pos (by simp only [Bool.false_eq_true, if_false]; omega)] at e
      unfold pl at e
      (repeat' (first | (with_reducible first | refine vi_then ?_ | refine vi_seq ?_ | refine vi_skip ?_ | refine vi_block ?_ | refine vi_blkN ?_ | refine vi_exit ?_ | refine vi_thenE ?_ | refine vi_blkE ?_ | refine vi_blkX rfl ?_ | refine vi_ret ?_ | refine vi_thenR ?_ | refine vi_blkR ?_ | refine fn_ret ?_ | refine fn_nor ?_) | (with_reducible refine vi_cond fun X Y hX hY => ?_; (simp only [ev, tget, if_true, if_false, Nat.reduceEqDiff, reduceCtorEq, decide_eq_true_eq, decide_eq_false_iff_not, Bool.true_eq_false, Bool.false_eq_true, Nat.not_lt, Nat.not_le, Int.not_lt, Int.not_le, not_true_eq_false, not_false_eq_true, ne_eq, Decidable.not_not, gt_iff_lt, ge_iff_le, Bool.not_eq_true', Bool.not_eq_false', Bool.not_eq_true, Bool.not_eq_false, Nat.reduceLT, Nat.reduceLeDiff, Bool.not_not, true_implies, false_implies, implies_true, and_true, true_and, forall_const, Bool.true_eq_false, Nat.lt_irrefl, Int.natCast_nonneg, Nat.zero_le, beq_t, beq_f, Bool.not_true, Bool.not_false, Bool.not_eq_eq_eq_not]); (first | (refine And.intro (fun hc => ?_) (fun hc => ?_)) | skip); all_goals ((first | refine hX ?_ | refine hY ?_); clear hX hY; clear X Y; (try (exfalso; omega; done)))) | ((with_reducible first | refine vi_reg fun K hK => ?_ | refine vi_regD fun K hK => ?_) <;> (simp only [VcFn, vcG, vcGD, core, ev, tget, mget, mset, msets, setT, keep, okv, fail, bin, binI, un, conv, shift, ixN, lenOf, content, Cells.asK, bnds, appR, eqr, eqc, eqvs, eqv, kOk, kOks, disj_nil, disj_cons, nmem_cons, true_or, or_true, or_false, false_or, all_lt0, all_lt1, all_lt2, Cells.nf, Cells.sc,
  AV.one, AV.num, AV.sc, Cells.rd, Cells.get, Cells.put, Cells.puts, Cells.count, Cells.len, Cells.esz, Cells.sub, Cells.part, Cells.app, Cells.has, Cells.recOk, Cells.win, Cells.toL, Cells.whole, Kd.nil, Kd.esz, tyC, un8, un32, un64, unN, unS, unR, zeroC, fillL, minL, minA,
  callR, coe, pur, purP, keysOf, resOk, resOkC, ren, renC, back, fkey, unB, isB,
  List.mapIdx_cons, List.mapIdx_nil, List.map_cons, List.map_nil, List.flatMap_cons, List.flatMap_nil, List.all_cons, List.all_nil, List.append_nil, List.nil_append, List.cons_append, List.length_cons, List.length_nil, List.length_replicate, List.forall_mem_cons, List.not_mem_nil, Option.getD_none, Option.getD_some, Option.map_some, Option.map_none, Function.comp, Nat.reduceEqDiff, Nat.reduceAdd, Nat.reduceMul, Nat.reduceLT, Nat.reduceLeDiff, Nat.reduceSub, Nat.reduceDiv, Nat.reduceMod, Nat.not_lt_zero, reduceCtorEq,
  ↓reduceIte, if_true, if_false, ite_true, ite_false, true_and, and_true, and_self, not_true_eq_false, not_false_eq_true, forall_const, true_implies, false_implies, implies_true, Nat.zero_add, Nat.add_zero, Nat.mul_one, Nat.zero_mul, Bool.true_eq_false, Bool.false_eq_true, Bool.not_true, Bool.not_false, Bool.and_true, Bool.true_and, Bool.and_self, eq_self, Nat.sub_zero, Nat.div_one, Nat.mod_one, List.set_cons_zero, List.set_cons_succ, List.getD_cons_zero, List.getD_cons_succ, Int.toNat_sub, Int.toNat_natCast, Nat.zero_le, List.drop_zero, List.drop_succ_cons, List.take_succ_cons, List.take_zero, List.take_length, List.length_append, List.take_left, List.length_set, List.take_of_length_le, Nat.le_refl, ne_eq, decide_true, decide_false, bne_self_eq_false, beq_self_eq_true, beq_t, beq_f, List.forall_mem_map, List.map_map, List.all_map, List.map_id', List.length_map, Function.comp_def, all_true, decide_eq_true_eq, decide_eq_false_iff_not, splice_all, part_end, Nat.add_sub_cancel, Nat.add_sub_cancel_left, UInt64.reduceToNat, UInt32.reduceToNat, UInt8.reduceToNat, Ctr.add, noCon, hn, h12, con12, h14, con14, h16, con16, splice, e5, room, inI, List.length_replicate, m2, m3, e, z]) <;> (repeat' (first | apply And.intro | intro _ | with_reducible refine ite_i ?_ ?_)) <;> (first | (refine hK _ _ ?_; clear hK; clear K) | exact trivial | with_reducible assumption | omega))))
      refine ⟨?_, .inl rfl, [], ?_⟩ <;> ((try simp only [Out, rv1, resT, meBack, LE, leT, leM, leA, leA1, leC, images, keysA, rho, tget, mget, okv, Cells.rd, Cells.has, Cells.recOk, Cells.len, Cells.count, Cells.win, Cells.part, Cells.sub, Cells.esz, Cells.rf, AV.rf, List.forall_mem_cons, List.not_mem_nil, false_implies, implies_true, forall_const, List.length_cons, List.length_nil, List.length_replicate, Nat.reduceAdd, Nat.zero_add, List.mapIdx_cons, List.mapIdx_nil, List.map_cons, List.map_nil, List.zip_cons_cons, List.zip_nil_right, if_true, true_or, true_and, and_true, and_self, List.nodup_nil, List.nil_append, List.append_nil, List.cons_append, List.nodup_cons, List.mem_cons, forall_eq, forall_eq_or_imp, or_false, or_self, not_false_eq_true, if_false, Nat.reduceEqDiff, reduceCtorEq, Option.isSome_some, Option.getD_none, Option.getD_some, eq_self, Nat.add_zero, Nat.div_one, Nat.mod_one, Nat.zero_div, List.drop_zero, Nat.sub_zero, Nat.lt_one_iff, Nat.le_refl, List.take_length, Nat.reduceLeDiff, Nat.reduceLT, Nat.mul_one, Nat.zero_lt_one, Bool.false_eq_true, List.take_of_length_le, List.length_append, List.length_set, rs7]) <;> (repeat' apply And.intro) <;> first | with_reducible rfl | omega | with_reducible assumption | exact rfl | (congr 1; omega) | (congr 2; omega))
    · have e := pl_E true (1358 + k)
      rw [if_pos (by simp only [if_true]; omega)] at e
      unfold pl at e
      (repeat' (first | (with_reducible first | refine vi_then ?_ | refine vi_seq ?_ | refine vi_skip ?_ | refine vi_block ?_ | refine vi_blkN ?_ | refine vi_exit ?_ | refine vi_thenE ?_ | refine vi_blkE ?_ | refine vi_blkX rfl ?_ | refine vi_ret ?_ | refine vi_thenR ?_ | refine vi_blkR ?_ | refine fn_ret ?_ | refine fn_nor ?_) | (with_reducible refine vi_cond fun X Y hX hY => ?_; (simp only [ev, tget, if_true, if_false, Nat.reduceEqDiff, reduceCtorEq, decide_eq_true_eq, decide_eq_false_iff_not, Bool.true_eq_false, Bool.false_eq_true, Nat.not_lt, Nat.not_le, Int.not_lt, Int.not_le, not_true_eq_false, not_false_eq_true, ne_eq, Decidable.not_not, gt_iff_lt, ge_iff_le, Bool.not_eq_true', Bool.not_eq_false', Bool.not_eq_true, Bool.not_eq_false, Nat.reduceLT, Nat.reduceLeDiff, Bool.not_not, true_implies, false_implies, implies_true, and_true, true_and, forall_const, Bool.true_eq_false, Nat.lt_irrefl, Int.natCast_nonneg, Nat.zero_le, beq_t, beq_f, Bool.not_true, Bool.not_false, Bool.not_eq_eq_eq_not]); (first | (refine And.intro (fun hc => ?_) (fun hc => ?_)) | skip); all_goals ((first | refine hX ?_ | refine hY ?_); clear hX hY; clear X Y; (try (exfalso; omega; done)))) | ((with_reducible first | refine vi_reg fun K hK => ?_ | refine vi_regD fun K hK => ?_) <;> (simp only [VcFn, vcG, vcGD, core, ev, tget, mget, mset, msets, setT, keep, okv, fail, bin, binI, un, conv, shift, ixN, lenOf, content, Cells.asK, bnds, appR, eqr, eqc, eqvs, eqv, kOk, kOks, disj_nil, disj_cons, nmem_cons, true_or, or_true, or_false, false_or, all_lt0, all_lt1, all_lt2, Cells.nf, Cells.sc,
  AV.one, AV.num, AV.sc, Cells.rd, Cells.get, Cells.put, Cells.puts, Cells.count, Cells.len, Cells.esz, Cells.sub, Cells.part, Cells.app, Cells.has, Cells.recOk, Cells.win, Cells.toL, Cells.whole, Kd.nil, Kd.esz, tyC, un8, un32, un64, unN, unS, unR, zeroC, fillL, minL, minA,
  callR, coe, pur, purP, keysOf, resOk, resOkC, ren, renC, back, fkey, unB, isB,
  List.mapIdx_cons, List.mapIdx_nil, List.map_cons, List.map_nil, List.flatMap_cons, List.flatMap_nil, List.all_cons, List.all_nil, List.append_nil, List.nil_append, List.cons_append, List.length_cons, List.length_nil, List.length_replicate, List.forall_mem_cons, List.not_mem_nil, Option.getD_none, Option.getD_some, Option.map_some, Option.map_none, Function.comp, Nat.reduceEqDiff, Nat.reduceAdd, Nat.reduceMul, Nat.reduceLT, Nat.reduceLeDiff, Nat.reduceSub, Nat.reduceDiv, Nat.reduceMod, Nat.not_lt_zero, reduceCtorEq,
  ↓reduceIte, if_true, if_false, ite_true, ite_false, true_and, and_true, and_self, not_true_eq_false, not_false_eq_true, forall_const, true_implies, false_implies, implies_true, Nat.zero_add, Nat.add_zero, Nat.mul_one, Nat.zero_mul, Bool.true_eq_false, Bool.false_eq_true, Bool.not_true, Bool.not_false, Bool.and_true, Bool.true_and, Bool.and_self, eq_self, Nat.sub_zero, Nat.div_one, Nat.mod_one, List.set_cons_zero, List.set_cons_succ, List.getD_cons_zero, List.getD_cons_succ, Int.toNat_sub, Int.toNat_natCast, Nat.zero_le, List.drop_zero, List.drop_succ_cons, List.take_succ_cons, List.take_zero, List.take_length, List.length_append, List.take_left, List.length_set, List.take_of_length_le, Nat.le_refl, ne_eq, decide_true, decide_false, bne_self_eq_false, beq_self_eq_true, beq_t, beq_f, List.forall_mem_map, List.map_map, List.all_map, List.map_id', List.length_map, Function.comp_def, all_true, decide_eq_true_eq, decide_eq_false_iff_not, splice_all, part_end, Nat.add_sub_cancel, Nat.add_sub_cancel_left, UInt64.reduceToNat, UInt32.reduceToNat, UInt8.reduceToNat, Ctr.add, noCon, hn, h12, con12, h14, con14, h16, con16, splice, e5, room, inI, List.length_replicate, m1, m3, e, z]) <;> (repeat' (first | apply And.intro | intro _ | with_reducible refine ite_i ?_ ?_)) <;> (first | (refine hK _ _ ?_; clear hK; clear K) | exact trivial | with_reducible assumption | omega))))
      refine ⟨?_, .inl rfl, [], ?_⟩ <;> ((try simp only [Out, rv1, resT, meBack, LE, leT, leM, leA, leA1, leC, images, keysA, rho, tget, mget, okv, Cells.rd, Cells.has, Cells.recOk, Cells.len, Cells.count, Cells.win, Cells.part, Cells.sub, Cells.esz, Cells.rf, AV.rf, List.forall_mem_cons, List.not_mem_nil, false_implies, implies_true, forall_const, List.length_cons, List.length_nil, List.length_replicate, Nat.reduceAdd, Nat.zero_add, List.mapIdx_cons, List.mapIdx_nil, List.map_cons, List.map_nil, List.zip_cons_cons, List.zip_nil_right, if_true, true_or, true_and, and_true, and_self, List.nodup_nil, List.nil_append, List.append_nil, List.cons_append, List.nodup_cons, List.mem_cons, forall_eq, forall_eq_or_imp, or_false, or_self, not_false_eq_true, if_false, Nat.reduceEqDiff, reduceCtorEq, Option.isSome_some, Option.getD_none, Option.getD_some, eq_self, Nat.add_zero, Nat.div_one, Nat.mod_one, Nat.zero_div, List.drop_zero, Nat.sub_zero, Nat.lt_one_iff, Nat.le_refl, List.take_length, Nat.reduceLeDiff, Nat.reduceLT, Nat.mul_one, Nat.zero_lt_one, Bool.false_eq_true, List.take_of_length_le, List.length_append, List.length_set, rs7]) <;> (repeat' apply And.intro) <;> first | with_reducible rfl | omega | with_reducible assumption | exact rfl | (congr 1; omega) | (congr 2; omega))
  · rw [if_neg (by omega)] at z
    cases v6
    · have e := pl_E false (1378 + k)
      rw [if_neg (by simp only [Bool.false_eq_true, if_false]; omega)] at e
      obtain ⟨b1, b2, b3, _⟩ := readBack e
      have b4 : (parP (putB (pl false (1378 + k)))).b.length = 1378 + k := by rw [b2]; exact l0 _
      have b5 : (putB (pl false (1378 + k))).length = 20 + (1378 + k) := by rw [b3, l0]; rfl
      clear b3
      unfold pl at e b1 b4 b5
      (repeat' (first | (with_reducible first | refine vi_then ?_ | refine vi_seq ?_ | refine vi_skip ?_ | refine vi_block ?_ | refine vi_blkN ?_ | refine vi_exit ?_ | refine vi_thenE ?_ | refine vi_blkE ?_ | refine vi_blkX rfl ?_ | refine vi_ret ?_ | refine vi_thenR ?_ | refine vi_blkR ?_ | refine fn_ret ?_ | refine fn_nor ?_) | (with_reducible refine vi_cond fun X Y hX hY => ?_; (simp only [ev, tget, if_true, if_false, Nat.reduceEqDiff, reduceCtorEq, decide_eq_true_eq, decide_eq_false_iff_not, Bool.true_eq_false, Bool.false_eq_true, Nat.not_lt, Nat.not_le, Int.not_lt, Int.not_le, not_true_eq_false, not_false_eq_true, ne_eq, Decidable.not_not, gt_iff_lt, ge_iff_le, Bool.not_eq_true', Bool.not_eq_false', Bool.not_eq_true, Bool.not_eq_false, Nat.reduceLT, Nat.reduceLeDiff, Bool.not_not, true_implies, false_implies, implies_true, and_true, true_and, forall_const, Bool.true_eq_false, Nat.lt_irrefl, Int.natCast_nonneg, Nat.zero_le, beq_t, beq_f, Bool.not_true, Bool.not_false, Bool.not_eq_eq_eq_not]); (first | (refine And.intro (fun hc => ?_) (fun hc => ?_)) | skip); all_goals ((first | refine hX ?_ | refine hY ?_); clear hX hY; clear X Y; (try (exfalso; omega; done)))) | ((with_reducible first | refine vi_reg fun K hK => ?_ | refine vi_regD fun K hK => ?_) <;> (simp only [VcFn, vcG, vcGD, core, ev, tget, mget, mset, msets, setT, keep, okv, fail, bin, binI, un, conv, shift, ixN, lenOf, content, Cells.asK, bnds, appR, eqr, eqc, eqvs, eqv, kOk, kOks, disj_nil, disj_cons, nmem_cons, true_or, or_true, or_false, false_or, all_lt0, all_lt1, all_lt2, Cells.nf, Cells.sc,
  AV.one, AV.num, AV.sc, Cells.rd, Cells.get, Cells.put, Cells.puts, Cells.count, Cells.len, Cells.esz, Cells.sub, Cells.part, Cells.app, Cells.has, Cells.recOk, Cells.win, Cells.toL, Cells.whole, Kd.nil, Kd.esz, tyC, un8, un32, un64, unN, unS, unR, zeroC, fillL, minL, minA,
  callR, coe, pur, purP, keysOf, resOk, resOkC, ren, renC, back, fkey, unB, isB,
  List.mapIdx_cons, List.mapIdx_nil, List.map_cons, List.map_nil, List.flatMap_cons, List.flatMap_nil, List.all_cons, List.all_nil, List.append_nil, List.nil_append, List.cons_append, List.length_cons, List.length_nil, List.length_replicate, List.forall_mem_cons, List.not_mem_nil, Option.getD_none, Option.getD_some, Option.map_some, Option.map_none, Function.comp, Nat.reduceEqDiff, Nat.reduceAdd, Nat.reduceMul, Nat.reduceLT, Nat.reduceLeDiff, Nat.reduceSub, Nat.reduceDiv, Nat.reduceMod, Nat.not_lt_zero, reduceCtorEq,
  ↓reduceIte, if_true, if_false, ite_true, ite_false, true_and, and_true, and_self, not_true_eq_false, not_false_eq_true, forall_const, true_implies, false_implies, implies_true, Nat.zero_add, Nat.add_zero, Nat.mul_one, Nat.zero_mul, Bool.true_eq_false, Bool.false_eq_true, Bool.not_true, Bool.not_false, Bool.and_true, Bool.true_and, Bool.and_self, eq_self, Nat.sub_zero, Nat.div_one, Nat.mod_one, List.set_cons_zero, List.set_cons_succ, List.getD_cons_zero, List.getD_cons_succ, Int.toNat_sub, Int.toNat_natCast, Nat.zero_le, List.drop_zero, List.drop_succ_cons, List.take_succ_cons, List.take_zero, List.take_length, List.length_append, List.take_left, List.length_set, List.take_of_length_le, Nat.le_refl, ne_eq, decide_true, decide_false, bne_self_eq_false, beq_self_eq_true, beq_t, beq_f, List.forall_mem_map, List.map_map, List.all_map, List.map_id', List.length_map, Function.comp_def, all_true, decide_eq_true_eq, decide_eq_false_iff_not, splice_all, part_end, Nat.add_sub_cancel, Nat.add_sub_cancel_left, UInt64.reduceToNat, UInt32.reduceToNat, UInt8.reduceToNat, Ctr.add, noCon, hn, h12, con12, h14, con14, h16, con16, splice, e5, room, inI, List.length_replicate, m2, m3, e, z, b1, b5, b4]) <;> (repeat' (first | apply And.intro | intro _ | with_reducible refine ite_i ?_ ?_)) <;> (first | (refine hK _ _ ?_; clear hK; clear K) | exact trivial | with_reducible assumption | omega))))
      refine ⟨?_, .inl rfl, [], ?_⟩ <;> ((try simp only [Out, rv1, resT, meBack, LE, leT, leM, leA, leA1, leC, images, keysA, rho, tget, mget, okv, Cells.rd, Cells.has, Cells.recOk, Cells.len, Cells.count, Cells.win, Cells.part, Cells.sub, Cells.esz, Cells.rf, AV.rf, List.forall_mem_cons, List.not_mem_nil, false_implies, implies_true, forall_const, List.length_cons, List.length_nil, List.length_replicate, Nat.reduceAdd, Nat.zero_add, List.mapIdx_cons, List.mapIdx_nil, List.map_cons, List.map_nil, List.zip_cons_cons, List.zip_nil_right, if_true, true_or, true_and, and_true, and_self, List.nodup_nil, List.nil_append, List.append_nil, List.cons_append, List.nodup_cons, List.mem_cons, forall_eq, forall_eq_or_imp, or_false, or_self, not_false_eq_true, if_false, Nat.reduceEqDiff, reduceCtorEq, Option.isSome_some, Option.getD_none, Option.getD_some, eq_self, Nat.add_zero, Nat.div_one, Nat.mod_one, Nat.zero_div, List.drop_zero, Nat.sub_zero, Nat.lt_one_iff, Nat.le_refl, List.take_length, Nat.reduceLeDiff, Nat.reduceLT, Nat.mul_one, Nat.zero_lt_one, Bool.false_eq_true, List.take_of_length_le, List.length_append, List.length_set, rs7]) <;> (repeat' apply And.intro) <;> first | with_reducible rfl | omega | with_reducible assumption | exact rfl | (congr 1; omega) | (congr 2; omega))
    · have e := pl_E true (1358 + k)
      rw [if_neg (by simp only [if_true]; omega)] at e
      obtain ⟨b1, b2, b3, _⟩ := readBack e
      have b4 : (parP (putB (pl true (1358 + k)))).b.length = 1358 + k := by rw [b2]; exact l0 _
      have b5 : (putB (pl true (1358 + k))).length = 40 + (1358 + k) := by rw [b3, l0]; rfl
      clear b3
      unfold pl at e b1 b4 b5
      (repeat' (first | (with_reducible first | refine vi_then ?_ | refine vi_seq ?_ | refine vi_skip ?_ | refine vi_block ?_ | refine vi_blkN ?_ | refine vi_exit ?_ | refine vi_thenE ?_ | refine vi_blkE ?_ | refine vi_blkX rfl ?_ | refine vi_ret ?_ | refine vi_thenR ?_ | refine vi_blkR ?_ | refine fn_ret ?_ | refine fn_nor ?_) | (with_reducible refine vi_cond fun X Y hX hY => ?_; (simp only [ev, tget, if_true, if_false, Nat.reduceEqDiff, reduceCtorEq, decide_eq_true_eq, decide_eq_false_iff_not, Bool.true_eq_false, Bool.false_eq_true, Nat.not_lt, Nat.not_le, Int.not_lt, Int.not_le, not_true_eq_false, not_false_eq_true, ne_eq, Decidable.not_not, gt_iff_lt, ge_iff_le, Bool.not_eq_true', Bool.not_eq_false', Bool.not_eq_true, Bool.not_eq_false, Nat.reduceLT, Nat.reduceLeDiff, Bool.not_not, true_implies, false_implies, implies_true, and_true, true_and, forall_const, Bool.true_eq_false, Nat.lt_irrefl, Int.natCast_nonneg, Nat.zero_le, beq_t, beq_f, Bool.not_true, Bool.not_false, Bool.not_eq_eq_eq_not]); (first | (refine And.intro (fun hc => ?_) (fun hc => ?_)) | skip); all_goals ((first | refine hX ?_ | refine hY ?_); clear hX hY; clear X Y; (try (exfalso; omega; done)))) | ((with_reducible first | refine vi_reg fun K hK => ?_ | refine vi_regD fun K hK => ?_) <;> (simp only [VcFn, vcG, vcGD, core, ev, tget, mget, mset, msets, setT, keep, okv, fail, bin, binI, un, conv, shift, ixN, lenOf, content, Cells.asK, bnds, appR, eqr, eqc, eqvs, eqv, kOk, kOks, disj_nil, disj_cons, nmem_cons, true_or, or_true, or_false, false_or, all_lt0, all_lt1, all_lt2, Cells.nf, Cells.sc,
  AV.one, AV.num, AV.sc, Cells.rd, Cells.get, Cells.put, Cells.puts, Cells.count, Cells.len, Cells.esz, Cells.sub, Cells.part, Cells.app, Cells.has, Cells.recOk, Cells.win, Cells.toL, Cells.whole, Kd.nil, Kd.esz, tyC, un8, un32, un64, unN, unS, unR, zeroC, fillL, minL, minA,
  callR, coe, pur, purP, keysOf, resOk, resOkC, ren, renC, back, fkey, unB, isB,
  List.mapIdx_cons, List.mapIdx_nil, List.map_cons, List.map_nil, List.flatMap_cons, List.flatMap_nil, List.all_cons, List.all_nil, List.append_nil, List.nil_append, List.cons_append, List.length_cons, List.length_nil, List.length_replicate, List.forall_mem_cons, List.not_mem_nil, Option.getD_none, Option.getD_some, Option.map_some, Option.map_none, Function.comp, Nat.reduceEqDiff, Nat.reduceAdd, Nat.reduceMul, Nat.reduceLT, Nat.reduceLeDiff, Nat.reduceSub, Nat.reduceDiv, Nat.reduceMod, Nat.not_lt_zero, reduceCtorEq,
  ↓reduceIte, if_true, if_false, ite_true, ite_false, true_and, and_true, and_self, not_true_eq_false, not_false_eq_true, forall_const, true_implies, false_implies, implies_true, Nat.zero_add, Nat.add_zero, Nat.mul_one, Nat.zero_mul, Bool.true_eq_false, Bool.false_eq_true, Bool.not_true, Bool.not_false, Bool.and_true, Bool.true_and, Bool.and_self, eq_self, Nat.sub_zero, Nat.div_one, Nat.mod_one, List.set_cons_zero, List.set_cons_succ, List.getD_cons_zero, List.getD_cons_succ, Int.toNat_sub, Int.toNat_natCast, Nat.zero_le, List.drop_zero, List.drop_succ_cons, List.take_succ_cons, List.take_zero, List.take_length, List.length_append, List.take_left, List.length_set, List.take_of_length_le, Nat.le_refl, ne_eq, decide_true, decide_false, bne_self_eq_false, beq_self_eq_true, beq_t, beq_f, List.forall_mem_map, List.map_map, List.all_map, List.map_id', List.length_map, Function.comp_def, all_true, decide_eq_true_eq, decide_eq_false_iff_not, splice_all, part_end, Nat.add_sub_cancel, Nat.add_sub_cancel_left, UInt64.reduceToNat, UInt32.reduceToNat, UInt8.reduceToNat, Ctr.add, noCon, hn, h12, con12, h14, con14, h16, con16, splice, e5, room, inI, List.length_replicate, m1, m3, e, z, b1, b5, b4]) <;> (repeat' (first | apply And.intro | intro _ | with_reducible refine ite_i ?_ ?_)) <;> (first | (refine hK _ _ ?_; clear hK; clear K) | exact trivial | with_reducible assumption | omega))))
      refine ⟨?_, .inl rfl, [], ?_⟩ <;> ((try simp only [Out, rv1, resT, meBack, LE, leT, leM, leA, leA1, leC, images, keysA, rho, tget, mget, okv, Cells.rd, Cells.has, Cells.recOk, Cells.len, Cells.count, Cells.win, Cells.part, Cells.sub, Cells.esz, Cells.rf, AV.rf, List.forall_mem_cons, List.not_mem_nil, false_implies, implies_true, forall_const, List.length_cons, List.length_nil, List.length_replicate, Nat.reduceAdd, Nat.zero_add, List.mapIdx_cons, List.mapIdx_nil, List.map_cons, List.map_nil, List.zip_cons_cons, List.zip_nil_right, if_true, true_or, true_and, and_true, and_self, List.nodup_nil, List.nil_append, List.append_nil, List.cons_append, List.nodup_cons, List.mem_cons, forall_eq, forall_eq_or_imp, or_false, or_self, not_false_eq_true, if_false, Nat.reduceEqDiff, reduceCtorEq, Option.isSome_some, Option.getD_none, Option.getD_some, eq_self, Nat.add_zero, Nat.div_one, Nat.mod_one, Nat.zero_div, List.drop_zero, Nat.sub_zero, Nat.lt_one_iff, Nat.le_refl, List.take_length, Nat.reduceLeDiff, Nat.reduceLT, Nat.mul_one, Nat.zero_lt_one, Bool.false_eq_true, List.take_of_length_le, List.length_append, List.length_set, rs7]) <;> (repeat' apply And.intro) <;> first | with_reducible rfl | omega | with_reducible assumption | exact rfl | (congr 1; omega) | (congr 2; omega))
end Go.Vc.K

/-! P10 -/
set_option linter.unusedVariables false
set_option linter.unusedSimpArgs false
set_option maxRecDepth 100000
namespace Go.Vc.K

theorem pack_right (v6 : Bool) (S D E F tt pr : UInt8) (b : List UInt8) : rightP (packP v6 S D E F tt pr b) = true := by
  have q : ∀ x y : UInt8, (720575940379279360 ||| shl64 (x % 8).toUInt64 48 ||| shl64 y.toUInt64 32) &&& 4294967295 = (0 : UInt64) := by
    intro x y
    apply UInt64.toNat_inj.1
    rw [UInt64.toNat_and]
    have e2 : (4294967295 : UInt64).toNat = 2 ^ 32 - 1 := by decide
    rw [e2, Nat.and_two_pow_sub_one_eq_mod, UInt64.toNat_or, UInt64.toNat_or]
    have a1 : (shl64 (x % 8).toUInt64 48).toNat = 2 ^ 32 * (x.toNat % 8 * 65536) := by
      have := x.toNat_lt
      simp [shl64, Nat.shiftLeft_eq]; omega
    have a2 : (shl64 y.toUInt64 32).toNat = 2 ^ 32 * y.toNat := by
      have := y.toNat_lt
      simp [shl64, Nat.shiftLeft_eq]; omega
    have a3 : (720575940379279360 : UInt64).toNat = 2 ^ 32 * 167772160 := by decide
    rw [a1, a2, a3, Nat.or_mod_two_pow, Nat.or_mod_two_pow, Nat.mul_mod_right, Nat.mul_mod_right, Nat.mul_mod_right]
    rfl
  cases v6
  · have h1 : sAH false S E &&& 4294967295 = 0 := q S E
    have h2 : sAH false D F &&& 4294967295 = 0 := q D F
    simp [rightP, packP, rightA, h1, h2, sAL]
  · have hS := S.toNat_lt
    have e : (shl32 S.toUInt32 8).toNat = 256 * S.toNat := by
      simp [shl32, Nat.shiftLeft_eq]; omega
    have h : shl32 S.toUInt32 8 ≤ 1048575 := by
      rw [UInt32.le_iff_toNat_le, e]; show _ ≤ 1048575; omega
    simp [rightP, packP, rightA, h]
theorem pack_E (v6 : Bool) (S D E F tt pr : UInt8) (b : List UInt8) (h : b.length ≤ 1360) : putE (packP v6 S D E F tt pr b) = 0 := by
  unfold putE
  have hb : (packP v6 S D E F tt pr b).b = b := rfl
  rw [pack_right, if_neg (by decide), hb, if_neg (by split <;> omega)]
theorem places6 {p : Pk} (h : rightP p = true) (hv : p.v6 = true) :
    shr8 ((put6 p).getD 0 0) 4 = 6 ∧ (put6 p).getD 6 0 = p.pr ∧ (put6 p).getD 7 0 = p.tt ∧ valF ((put6 p).drop 8) 8 = p.sh ∧ valF ((put6 p).drop 32) 8 = p.dl ∧ (put6 p).drop 40 = p.b := by
  obtain ⟨h1, h2, h3, h4, h5⟩ := rightP_6 h hv
  obtain ⟨v6, cl, fl, id, fr, tt, pr, sv, sh, sl, dv, dh, dl, b⟩ := p
  simp only at hv h1 h2 h3 h4 h5
  subst hv h1 h2 h4 h5
  generalize hp : (⟨true, cl, fl, 0, 0, tt, pr, true, sh, sl, true, dh, dl, b⟩ : Pk) = p
  have hW := word6 cl fl h3
  have hc := cl.toNat_lt
  generalize hw : (1610612736 ||| shl64 cl.toUInt64 20 ||| fl.toUInt64 : UInt64) = W at *
  have d0 : (put6 p).getD 0 0 = (shr64 W 24).toUInt8 := by rw [← hp, ← hw]; rfl
  have d6 : (put6 p).getD 6 0 = p.pr := by rw [← hp]; rfl
  have d7 : (put6 p).getD 7 0 = p.tt := by rw [← hp]; rfl
  have t8 : (put6 p).drop 8 = num p.sh 8 ++ (num sl 8 ++ (addrB true dh dl ++ b)) := by rw [← hp]; rfl
  have t32 : (put6 p).drop 32 = num p.dl 8 ++ b := by rw [← hp]; rfl
  have t40 : (put6 p).drop 40 = p.b := by rw [← hp]; rfl
  refine ⟨?_, d6, d7, by rw [t8, valF_num8], by rw [t32, valF_num8], t40⟩
  rw [d0]
  apply UInt8.toNat_inj.1
  have e : (shr8 (shr64 W 24).toUInt8 4).toNat = (shr64 W 24).toUInt8.toNat / 16 := by
    simp [shr8, Nat.shiftRight_eq_div_pow]
  rw [e, UInt64.toNat_toUInt8, shr64_nat _ (by omega), hW]
  show _ = 6
  omega
theorem places4 {p : Pk} (h : rightP p = true) (hv : p.v6 = false) :
    (put4 p).getD 0 0 = 69 ∧ (put4 p).getD 1 0 = p.cl ∧ (put4 p).getD 8 0 = p.tt ∧ (put4 p).getD 9 0 = p.pr ∧ valF ((put4 p).drop 12) 4 = shr64 p.sh 32 ∧ sumP ((put4 p).take 20) = 0 ∧ (put4 p).drop 20 = p.b := by
  obtain ⟨h1, h2, h3, h4, h5, h6, h7⟩ := rightP_4 h hv
  obtain ⟨v6, cl, fl, id, fr, tt, pr, sv, sh, sl, dv, dh, dl, b⟩ := p
  simp only at hv h1 h2 h3 h4 h5 h6 h7
  subst hv h1 h2 h3 h4 h5
  generalize hp : (⟨false, cl, 0, id, fr, tt, pr, false, sh, 0, false, dh, 0, b⟩ : Pk) = p
  have hr : 20 ≤ (raw4 p).length := by rw [← hp]; simp [raw4, num_len, addrB_len]; omega
  have d0 : (put4 p).getD 0 0 = 69 := by rw [← hp]; rfl
  have d1 : (put4 p).getD 1 0 = p.cl := by rw [← hp]; rfl
  have d8 : (put4 p).getD 8 0 = p.tt := by rw [← hp]; rfl
  have d9 : (put4 p).getD 9 0 = p.pr := by rw [← hp]; rfl
  have t12 : (put4 p).drop 12 = num (shr64 p.sh 32) 4 ++ (addrB false dh 0 ++ b) := by rw [← hp]; rfl
  have t20 : (put4 p).drop 20 = p.b := by rw [← hp]; rfl
  exact ⟨d0, d1, d8, d9, by rw [t12, valF_num4], sum_summed _ hr, t20⟩

theorem vc8f {Γ : Ctr} (h12 : ∀ a, Γ 12 a [] = con12 a) (h13 : ∀ a, Γ 13 a [] = con13 a) (h14 : ∀ a, Γ 14 a [] = con14 a) (h22 : ∀ a, Γ 22 a [] = con22 a) (h24 : ∀ a, Γ 24 a [] = con24 a)
    (S D E F tt pr : UInt8) (b : List UInt8) (hl : ¬ 100 < b.length) :
    VcFn Γ rs8 mc8 [.agg (.gen [.bool false, .u8 S, .u8 D, .u8 E, .u8 F, .u8 tt, .u8 pr, .sl false (.b8 b)])] ⟨True, .bool true, [], []⟩ := by
  refine fn_i rfl ?_
  unfold mc8
  have hE := pack_E false S D E F tt pr b (by omega)
  have hr := pack_right false S D E F tt pr b
  have hP : (⟨false, E, (packP false S D E F tt pr b).fl, (packP false S D E F tt pr b).id, (packP false S D E F tt pr b).fr, tt, pr, false, sAH false S E, sAL false E, false, sAH false D F, sAL false F, b⟩ : Pk) = packP false S D E F tt pr b := rfl
  obtain ⟨_, _, hlen, _⟩ := readBack hE
  have hB : putB (packP false S D E F tt pr b) = put4 (packP false S D E F tt pr b) := by unfold putB; rw [if_pos hE]; rfl
  rw [hB] at hlen
  have hlen : (put4 (packP false S D E F tt pr b)).length = 20 + b.length := hlen
  obtain ⟨p1, p2, p3, p4, p5, p6, p7⟩ := places4 hr rfl
  have p2 : (put4 (packP false S D E F tt pr b)).getD 1 0 = E := p2
  have p3 : (put4 (packP false S D E F tt pr b)).getD 8 0 = tt := p3
  have p4 : (put4 (packP false S D E F tt pr b)).getD 9 0 = pr := p4
  have p5 : valF ((put4 (packP false S D E F tt pr b)).drop 12) 4 = shr64 (sAH false S E) 32 := p5
  have p7 : (put4 (packP false S D E F tt pr b)).drop 20 = b := p7
  have p8 : ([(put4 (packP false S D E F tt pr b)).take 20] : List (List UInt8)).flatten = (put4 (packP false S D E F tt pr b)).take 20 := by simp
  generalize put4 (packP false S D E F tt pr b) = X at *
  (repeat' (first | (with_reducible first | refine vi_then ?_ | refine vi_seq ?_ | refine vi_skip ?_ | refine vi_block ?_ | refine vi_blkN ?_ | refine vi_exit ?_ | refine vi_thenE ?_ | refine vi_blkE ?_ | refine vi_blkX rfl ?_ | refine vi_ret ?_ | refine vi_thenR ?_ | refine vi_blkR ?_ | refine fn_ret ?_ | refine fn_nor ?_) | (with_reducible refine vi_cond fun X Y hX hY => ?_; (simp only [ev, tget, if_true, if_false, Nat.reduceEqDiff, reduceCtorEq, decide_eq_true_eq, decide_eq_false_iff_not, Bool.true_eq_false, Bool.false_eq_true, Nat.not_lt, Nat.not_le, Int.not_lt, Int.not_le, not_true_eq_false, not_false_eq_true, ne_eq, Decidable.not_not, gt_iff_lt, ge_iff_le, Bool.not_eq_true', Bool.not_eq_false', Bool.not_eq_true, Bool.not_eq_false, Nat.reduceLT, Nat.reduceLeDiff, Bool.not_not, true_implies, false_implies, implies_true, and_true, true_and, forall_const, Bool.true_eq_false, Nat.lt_irrefl, Int.natCast_nonneg, Nat.zero_le, beq_t, beq_f, Bool.not_true, Bool.not_false, Bool.not_eq_eq_eq_not]); (first | (refine And.intro (fun hc => ?_) (fun hc => ?_)) | skip); all_goals ((first | refine hX ?_ | refine hY ?_); clear hX hY; clear X Y; (try (exfalso; omega; done)))) | ((with_reducible first | refine vi_reg fun K hK => ?_ | refine vi_regD fun K hK => ?_) <;> (simp only [VcFn, vcG, vcGD, core, ev, tget, mget, mset, msets, setT, keep, okv, fail, bin, binI, un, conv, shift, ixN, lenOf, content, Cells.asK, bnds, appR, eqr, eqc, eqvs, eqv, kOk, kOks, disj_nil, disj_cons, nmem_cons, true_or, or_true, or_false, false_or, all_lt0, all_lt1, all_lt2, Cells.nf, Cells.sc,
  AV.one, AV.num, AV.sc, Cells.rd, Cells.get, Cells.put, Cells.puts, Cells.count, Cells.len, Cells.esz, Cells.sub, Cells.part, Cells.app, Cells.has, Cells.recOk, Cells.win, Cells.toL, Cells.whole, Kd.nil, Kd.esz, tyC, un8, un32, un64, unN, unS, unR, zeroC, fillL, minL, minA,
  callR, coe, pur, purP, keysOf, resOk, resOkC, ren, renC, back, fkey, unB, isB,
  List.mapIdx_cons, List.mapIdx_nil, List.map_cons, List.map_nil, List.flatMap_cons, List.flatMap_nil, List.all_cons, List.all_nil, List.append_nil, List.nil_append, List.cons_append, List.length_cons, List.length_nil, List.length_replicate, List.forall_mem_cons, List.not_mem_nil, Option.getD_none, Option.getD_some, Option.map_some, Option.map_none, Function.comp, Nat.reduceEqDiff, Nat.reduceAdd, Nat.reduceMul, Nat.reduceLT, Nat.reduceLeDiff, Nat.reduceSub, Nat.reduceDiv, Nat.reduceMod, Nat.not_lt_zero, reduceCtorEq,
  ↓reduceIte, if_true, if_false, ite_true, ite_false, true_and, and_true, and_self, not_true_eq_false, not_false_eq_true, forall_const, true_implies, false_implies, implies_true, Nat.zero_add, Nat.add_zero, Nat.mul_one, Nat.zero_mul, Bool.true_eq_false, Bool.false_eq_true, Bool.not_true, Bool.not_false, Bool.and_true, Bool.true_and, Bool.and_self, eq_self, Nat.sub_zero, Nat.div_one, Nat.mod_one, List.set_cons_zero, List.set_cons_succ, List.getD_cons_zero, List.getD_cons_succ, Int.toNat_sub, Int.toNat_natCast, Nat.zero_le, List.drop_zero, List.drop_succ_cons, List.take_succ_cons, List.take_zero, List.take_length, List.length_append, List.take_left, List.length_set, List.take_of_length_le, Nat.le_refl, ne_eq, decide_true, decide_false, bne_self_eq_false, beq_self_eq_true, beq_t, beq_f, List.forall_mem_map, List.map_map, List.all_map, List.map_id', List.length_map, Function.comp_def, all_true, decide_eq_true_eq, decide_eq_false_iff_not, splice_all, part_end, Nat.add_sub_cancel, Nat.add_sub_cancel_left, UInt64.reduceToNat, UInt32.reduceToNat, UInt8.reduceToNat, Ctr.add, noCon, h12, con12, h13, con13, h14, con14, h22, con22, h24, con24, hP, hE, hB, splice, p1, p2, p3, p4, p5, p6, p7, p8, hlen, total_cons, total_nil, List.length_take, List.length_drop]) <;> (repeat' (first | apply And.intro | intro _ | with_reducible refine ite_i ?_ ?_)) <;> (first | (refine hK _ _ ?_; clear hK; clear K) | exact trivial | with_reducible assumption | omega))))
  refine ⟨?_, .inl rfl, [], ?_⟩ <;> ((try simp only [Out, rv1, resT, meBack, LE, leT, leM, leA, leA1, leC, images, keysA, rho, tget, mget, okv, Cells.rd, Cells.has, Cells.recOk, Cells.len, Cells.count, Cells.win, Cells.part, Cells.sub, Cells.esz, Cells.rf, AV.rf, List.forall_mem_cons, List.not_mem_nil, false_implies, implies_true, forall_const, List.length_cons, List.length_nil, List.length_replicate, Nat.reduceAdd, Nat.zero_add, List.mapIdx_cons, List.mapIdx_nil, List.map_cons, List.map_nil, List.zip_cons_cons, List.zip_nil_right, if_true, true_or, true_and, and_true, and_self, List.nodup_nil, List.nil_append, List.append_nil, List.cons_append, List.nodup_cons, List.mem_cons, forall_eq, forall_eq_or_imp, or_false, or_self, not_false_eq_true, if_false, Nat.reduceEqDiff, reduceCtorEq, Option.isSome_some, Option.getD_none, Option.getD_some, eq_self, Nat.add_zero, Nat.div_one, Nat.mod_one, Nat.zero_div, List.drop_zero, Nat.sub_zero, Nat.lt_one_iff, Nat.le_refl, List.take_length, Nat.reduceLeDiff, Nat.reduceLT, Nat.mul_one, Nat.zero_lt_one, Bool.false_eq_true, List.take_of_length_le, List.length_append, List.length_set, rs8]) <;> (repeat' apply And.intro) <;> first | with_reducible rfl | omega | with_reducible assumption | exact rfl | (congr 1; omega) | (congr 2; omega))
theorem vc8t {Γ : Ctr} (h12 : ∀ a, Γ 12 a [] = con12 a) (h13 : ∀ a, Γ 13 a [] = con13 a) (h14 : ∀ a, Γ 14 a [] = con14 a) (h22 : ∀ a, Γ 22 a [] = con22 a) (h24 : ∀ a, Γ 24 a [] = con24 a)
    (S D E F tt pr : UInt8) (b : List UInt8) (hl : ¬ 100 < b.length) :
    VcFn Γ rs8 mc8 [.agg (.gen [.bool true, .u8 S, .u8 D, .u8 E, .u8 F, .u8 tt, .u8 pr, .sl false (.b8 b)])] ⟨True, .bool true, [], []⟩ := by
  refine fn_i rfl ?_
  unfold mc8
  have hE := pack_E true S D E F tt pr b (by omega)
  have hr := pack_right true S D E F tt pr b
  have hP : (⟨true, E, (packP true S D E F tt pr b).fl, (packP true S D E F tt pr b).id, (packP true S D E F tt pr b).fr, tt, pr, true, sAH true S E, sAL true E, true, sAH true D F, sAL true F, b⟩ : Pk) = packP true S D E F tt pr b := rfl
  obtain ⟨_, _, hlen, _⟩ := readBack hE
  have hB : putB (packP true S D E F tt pr b) = put6 (packP true S D E F tt pr b) := by unfold putB; rw [if_pos hE]; rfl
  rw [hB] at hlen
  have hlen : (put6 (packP true S D E F tt pr b)).length = 40 + b.length := hlen
  obtain ⟨p1, p2, p3, p4, p5, p6⟩ := places6 hr rfl
  have p2 : (put6 (packP true S D E F tt pr b)).getD 6 0 = pr := p2
  have p3 : (put6 (packP true S D E F tt pr b)).getD 7 0 = tt := p3
  have p4 : valF ((put6 (packP true S D E F tt pr b)).drop 8) 8 = sAH true S E := p4
  have p5 : valF ((put6 (packP true S D E F tt pr b)).drop 32) 8 = sAL true F := p5
  have p6 : (put6 (packP true S D E F tt pr b)).drop 40 = b := p6
  generalize put6 (packP true S D E F tt pr b) = X at *
  (repeat' (first | (with_reducible first | refine vi_then ?_ | refine vi_seq ?_ | refine vi_skip ?_ | refine vi_block ?_ | refine vi_blkN ?_ | refine vi_exit ?_ | refine vi_thenE ?_ | refine vi_blkE ?_ | refine vi_blkX rfl ?_ | refine vi_ret ?_ | refine vi_thenR ?_ | refine vi_blkR ?_ | refine fn_ret ?_ | refine fn_nor ?_) | (with_reducible refine vi_cond fun X Y hX hY => ?_; (simp only [ev, tget, if_true, if_false, Nat.reduceEqDiff, reduceCtorEq, decide_eq_true_eq, decide_eq_false_iff_not, Bool.true_eq_false, Bool.false_eq_true, Nat.not_lt, Nat.not_le, Int.not_lt, Int.not_le, not_true_eq_false, not_false_eq_true, ne_eq, Decidable.not_not, gt_iff_lt, ge_iff_le, Bool.not_eq_true', Bool.not_eq_false', Bool.not_eq_true, Bool.not_eq_false, Nat.reduceLT, Nat.reduceLeDiff, Bool.not_not, true_implies, false_implies, implies_true, and_true, true_and, forall_const, Bool.true_eq_false, Nat.lt_irrefl, Int.natCast_nonneg, Nat.zero_le, beq_t, beq_f, Bool.not_true, Bool.not_false, Bool.not_eq_eq_eq_not]); (first | (refine And.intro (fun hc => ?_) (fun hc => ?_)) | skip); all_goals ((first | refine hX ?_ | refine hY ?_); clear hX hY; clear X Y; (try (exfalso; omega; done)))) | ((with_reducible first | refine vi_reg fun K hK => ?_ | refine vi_regD fun K hK => ?_) <;> (simp only [VcFn, vcG, vcGD, core, ev, tget, mget, mset, msets, setT, keep, okv, fail, bin, binI, un, conv, shift, ixN, lenOf, content, Cells.asK, bnds, appR, eqr, eqc, eqvs, eqv, kOk, kOks, disj_nil, disj_cons, nmem_cons, true_or, or_true, or_false, false_or, all_lt0, all_lt1, all_lt2, Cells.nf, Cells.sc,
  AV.one, AV.num, AV.sc, Cells.rd, Cells.get, Cells.put, Cells.puts, Cells.count, Cells.len, Cells.esz, Cells.sub, Cells.part, Cells.app, Cells.has, Cells.recOk, Cells.win, Cells.toL, Cells.whole, Kd.nil, Kd.esz, tyC, un8, un32, un64, unN, unS, unR, zeroC, fillL, minL, minA,
  callR, coe, pur, purP, keysOf, resOk, resOkC, ren, renC, back, fkey, unB, isB,
  List.mapIdx_cons, List.mapIdx_nil, List.map_cons, List.map_nil, List.flatMap_cons, List.flatMap_nil, List.all_cons, List.all_nil, List.append_nil, List.nil_append, List.cons_append, List.length_cons, List.length_nil, List.length_replicate, List.forall_mem_cons, List.not_mem_nil, Option.getD_none, Option.getD_some, Option.map_some, Option.map_none, Function.comp, Nat.reduceEqDiff, Nat.reduceAdd, Nat.reduceMul, Nat.reduceLT, Nat.reduceLeDiff, Nat.reduceSub, Nat.reduceDiv, Nat.reduceMod, Nat.not_lt_zero, reduceCtorEq,
  ↓reduceIte, if_true, if_false, ite_true, ite_false, true_and, and_true, and_self, not_true_eq_false, not_false_eq_true, forall_const, true_implies, false_implies, implies_true, Nat.zero_add, Nat.add_zero, Nat.mul_one, Nat.zero_mul, Bool.true_eq_false, Bool.false_eq_true, Bool.not_true, Bool.not_false, Bool.and_true, Bool.true_and, Bool.and_self, eq_self, Nat.sub_zero, Nat.div_one, Nat.mod_one, List.set_cons_zero, List.set_cons_succ, List.getD_cons_zero, List.getD_cons_succ, Int.toNat_sub, Int.toNat_natCast, Nat.zero_le, List.drop_zero, List.drop_succ_cons, List.take_succ_cons, List.take_zero, List.take_length, List.length_append, List.take_left, List.length_set, List.take_of_length_le, Nat.le_refl, ne_eq, decide_true, decide_false, bne_self_eq_false, beq_self_eq_true, beq_t, beq_f, List.forall_mem_map, List.map_map, List.all_map, List.map_id', List.length_map, Function.comp_def, all_true, decide_eq_true_eq, decide_eq_false_iff_not, splice_all, part_end, Nat.add_sub_cancel, Nat.add_sub_cancel_left, UInt64.reduceToNat, UInt32.reduceToNat, UInt8.reduceToNat, Ctr.add, noCon, h12, con12, h13, con13, h14, con14, h22, con22, h24, con24, hP, hE, hB, splice, p1, p2, p3, p4, p5, p6, hlen, List.length_take, List.length_drop]) <;> (repeat' (first | apply And.intro | intro _ | with_reducible refine ite_i ?_ ?_)) <;> (first | (refine hK _ _ ?_; clear hK; clear K) | exact trivial | with_reducible assumption | omega))))
  refine ⟨?_, .inl rfl, [], ?_⟩ <;> ((try simp only [Out, rv1, resT, meBack, LE, leT, leM, leA, leA1, leC, images, keysA, rho, tget, mget, okv, Cells.rd, Cells.has, Cells.recOk, Cells.len, Cells.count, Cells.win, Cells.part, Cells.sub, Cells.esz, Cells.rf, AV.rf, List.forall_mem_cons, List.not_mem_nil, false_implies, implies_true, forall_const, List.length_cons, List.length_nil, List.length_replicate, Nat.reduceAdd, Nat.zero_add, List.mapIdx_cons, List.mapIdx_nil, List.map_cons, List.map_nil, List.zip_cons_cons, List.zip_nil_right, if_true, true_or, true_and, and_true, and_self, List.nodup_nil, List.nil_append, List.append_nil, List.cons_append, List.nodup_cons, List.mem_cons, forall_eq, forall_eq_or_imp, or_false, or_self, not_false_eq_true, if_false, Nat.reduceEqDiff, reduceCtorEq, Option.isSome_some, Option.getD_none, Option.getD_some, eq_self, Nat.add_zero, Nat.div_one, Nat.mod_one, Nat.zero_div, List.drop_zero, Nat.sub_zero, Nat.lt_one_iff, Nat.le_refl, List.take_length, Nat.reduceLeDiff, Nat.reduceLT, Nat.mul_one, Nat.zero_lt_one, Bool.false_eq_true, List.take_of_length_le, List.length_append, List.length_set, rs8]) <;> (repeat' apply And.intro) <;> first | with_reducible rfl | omega | with_reducible assumption | exact rfl | (congr 1; omega) | (congr 2; omega))
theorem vc8 {Γ : Ctr} (h12 : ∀ a, Γ 12 a [] = con12 a) (h13 : ∀ a, Γ 13 a [] = con13 a) (h14 : ∀ a, Γ 14 a [] = con14 a) (h22 : ∀ a, Γ 22 a [] = con22 a) (h24 : ∀ a, Γ 24 a [] = con24 a)
    (v6 : Bool) (S D E F tt pr : UInt8) (b : List UInt8) (hb : b.length < 9223372036854775808) :
    VcFn Γ rs8 mc8 [.agg (.gen [.bool v6, .u8 S, .u8 D, .u8 E, .u8 F, .u8 tt, .u8 pr, .sl false (.b8 b)])] ⟨True, .bool true, [], []⟩ := by
  by_cases hl : 100 < b.length
  · refine fn_i rfl ?_
    unfold mc8
    (repeat' (first | (with_reducible first | refine vi_then ?_ | refine vi_seq ?_ | refine vi_skip ?_ | refine vi_block ?_ | refine vi_blkN ?_ | refine vi_exit ?_ | refine vi_thenE ?_ | refine vi_blkE ?_ | refine vi_blkX rfl ?_ | refine vi_ret ?_ | refine vi_thenR ?_ | refine vi_blkR ?_ | refine fn_ret ?_ | refine fn_nor ?_) | (with_reducible refine vi_cond fun X Y hX hY => ?_; (simp only [ev, tget, if_true, if_false, Nat.reduceEqDiff, reduceCtorEq, decide_eq_true_eq, decide_eq_false_iff_not, Bool.true_eq_false, Bool.false_eq_true, Nat.not_lt, Nat.not_le, Int.not_lt, Int.not_le, not_true_eq_false, not_false_eq_true, ne_eq, Decidable.not_not, gt_iff_lt, ge_iff_le, Bool.not_eq_true', Bool.not_eq_false', Bool.not_eq_true, Bool.not_eq_false, Nat.reduceLT, Nat.reduceLeDiff, Bool.not_not, true_implies, false_implies, implies_true, and_true, true_and, forall_const, Bool.true_eq_false, Nat.lt_irrefl, Int.natCast_nonneg, Nat.zero_le, beq_t, beq_f, Bool.not_true, Bool.not_false, Bool.not_eq_eq_eq_not]); (first | (refine And.intro (fun hc => ?_) (fun hc => ?_)) | skip); all_goals ((first | refine hX ?_ | refine hY ?_); clear hX hY; clear X Y; (try (exfalso; omega; done)))) | ((with_reducible first | refine vi_reg fun K hK => ?_ | refine vi_regD fun K hK => ?_) <;> (simp only [VcFn, vcG, vcGD, core, ev, tget, mget, mset, msets, setT, keep, okv, fail, bin, binI, un, conv, shift, ixN, lenOf, content, Cells.asK, bnds, appR, eqr, eqc, eqvs, eqv, kOk, kOks, disj_nil, disj_cons, nmem_cons, true_or, or_true, or_false, false_or, all_lt0, all_lt1, all_lt2, Cells.nf, Cells.sc,
  AV.one, AV.num, AV.sc, Cells.rd, Cells.get, Cells.put, Cells.puts, Cells.count, Cells.len, Cells.esz, Cells.sub, Cells.part, Cells.app, Cells.has, Cells.recOk, Cells.win, Cells.toL, Cells.whole, Kd.nil, Kd.esz, tyC, un8, un32, un64, unN, unS, unR, zeroC, fillL, minL, minA,
  callR, coe, pur, purP, keysOf, resOk, resOkC, ren, renC, back, fkey, unB, isB,
  List.mapIdx_cons, List.mapIdx_nil, List.map_cons, List.map_nil, List.flatMap_cons, List.flatMap_nil, List.all_cons, List.all_nil, List.append_nil, List.nil_append, List.cons_append, List.length_cons, List.length_nil, List.length_replicate, List.forall_mem_cons, List.not_mem_nil, Option.getD_none, Option.getD_some, Option.map_some, Option.map_none, Function.comp, Nat.reduceEqDiff, Nat.reduceAdd, Nat.reduceMul, Nat.reduceLT, Nat.reduceLeDiff, Nat.reduceSub, Nat.reduceDiv, Nat.reduceMod, Nat.not_lt_zero, reduceCtorEq,
  ↓reduceIte, if_true, if_false, ite_true, ite_false, true_and, and_true, and_self, not_true_eq_false, not_false_eq_true, forall_const, true_implies, false_implies, implies_true, Nat.zero_add, Nat.add_zero, Nat.mul_one, Nat.zero_mul, Bool.true_eq_false, Bool.false_eq_true, Bool.not_true, Bool.not_false, Bool.and_true, Bool.true_and, Bool.and_self, eq_self, Nat.sub_zero, Nat.div_one, Nat.mod_one, List.set_cons_zero, List.set_cons_succ, List.getD_cons_zero, List.getD_cons_succ, Int.toNat_sub, Int.toNat_natCast, Nat.zero_le, List.drop_zero, List.drop_succ_cons, List.take_succ_cons, List.take_zero, List.take_length, List.length_append, List.take_left, List.length_set, List.take_of_length_le, Nat.le_refl, ne_eq, decide_true, decide_false, bne_self_eq_false, beq_self_eq_true, beq_t, beq_f, List.forall_mem_map, List.map_map, List.all_map, List.map_id', List.length_map, Function.comp_def, all_true, decide_eq_true_eq, decide_eq_false_iff_not, splice_all, part_end, Nat.add_sub_cancel, Nat.add_sub_cancel_left, UInt64.reduceToNat, UInt32.reduceToNat, UInt8.reduceToNat, Ctr.add, noCon, h12, con12]) <;> (repeat' (first | apply And.intro | intro _ | with_reducible refine ite_i ?_ ?_)) <;> (first | (refine hK _ _ ?_; clear hK; clear K) | exact trivial | with_reducible assumption | omega))))
    all_goals first | (exfalso; omega; done) | skip
    refine ⟨?_, .inl rfl, [], ?_⟩ <;> ((try simp only [Out, rv1, resT, meBack, LE, leT, leM, leA, leA1, leC, images, keysA, rho, tget, mget, okv, Cells.rd, Cells.has, Cells.recOk, Cells.len, Cells.count, Cells.win, Cells.part, Cells.sub, Cells.esz, Cells.rf, AV.rf, List.forall_mem_cons, List.not_mem_nil, false_implies, implies_true, forall_const, List.length_cons, List.length_nil, List.length_replicate, Nat.reduceAdd, Nat.zero_add, List.mapIdx_cons, List.mapIdx_nil, List.map_cons, List.map_nil, List.zip_cons_cons, List.zip_nil_right, if_true, true_or, true_and, and_true, and_self, List.nodup_nil, List.nil_append, List.append_nil, List.cons_append, List.nodup_cons, List.mem_cons, forall_eq, forall_eq_or_imp, or_false, or_self, not_false_eq_true, if_false, Nat.reduceEqDiff, reduceCtorEq, Option.isSome_some, Option.getD_none, Option.getD_some, eq_self, Nat.add_zero, Nat.div_one, Nat.mod_one, Nat.zero_div, List.drop_zero, Nat.sub_zero, Nat.lt_one_iff, Nat.le_refl, List.take_length, Nat.reduceLeDiff, Nat.reduceLT, Nat.mul_one, Nat.zero_lt_one, Bool.false_eq_true, List.take_of_length_le, List.length_append, List.length_set, rs8]) <;> (repeat' apply And.intro) <;> first | with_reducible rfl | omega | with_reducible assumption | exact rfl | (congr 1; omega) | (congr 2; omega))
  cases v6
  · exact vc8f h12 h13 h14 h22 h24 S D E F tt pr b hl
  · exact vc8t h12 h13 h14 h22 h24 S D E F tt pr b hl
end Go.Vc.K

/-! P20 -/
set_option linter.unusedVariables false
set_option maxRecDepth 100000
namespace Go.Vc.K

def G0 : Ctr := Ctr.none_
theorem s0 : Sound Go.Proofs.Try.prog G0 := Sound.none_ _
def G1 : Ctr := G0.add 57 con57
theorem s1 : Sound Go.Proofs.Try.prog G1 := by
  refine s0.add (fun a => by unfold con57; split <;> rfl) (fun a => ?_)
  unfold con57
  split
  · rename_i v hi lo; rintro h1; exact s0.call ok57 (show ntOk Go.Proofs.Try.prog 57 1 = true by decide +kernel) (vc57 _ v hi lo)
  · exact fun h => h.elim
def G2 : Ctr := G1.add 56 con56
theorem s2 : Sound Go.Proofs.Try.prog G2 := by
  refine s1.add (fun a => by unfold con56; split <;> rfl) (fun a => ?_)
  unfold con56
  split
  · rename_i v hi lo k; rintro h1; exact s1.call ok56 (show ntOk Go.Proofs.Try.prog 56 2 = true by decide +kernel) (vc56 _ v hi lo k h1)
  · exact fun h => h.elim
def G3 : Ctr := G2.add 46 con46
theorem s3 : Sound Go.Proofs.Try.prog G3 := by
  refine s2.add (fun a => by unfold con46; split <;> rfl) (fun a => ?_)
  unfold con46
  split
  · rename_i v hi lo; rintro h1; exact s2.call ok46 (show ntOk Go.Proofs.Try.prog 46 1 = true by decide +kernel) (vc46 (fun _ => rfl) (fun _ => rfl) v hi lo)
  · exact fun h => h.elim
def G4 : Ctr := G3.add 38 con38
theorem s4 : Sound Go.Proofs.Try.prog G4 := by
  refine s3.add (fun a => by unfold con38; split <;> rfl) (fun a => ?_)
  unfold con38
  split
  · rename_i v hi lo; rintro h1; exact s3.call ok38 (show ntOk Go.Proofs.Try.prog 38 1 = true by decide +kernel) (vc38 _ v hi lo)
  · exact fun h => h.elim
def G5 : Ctr := G4.add 53 con53
theorem s5 : Sound Go.Proofs.Try.prog G5 := by
  refine s4.add (fun a => by unfold con53; split <;> rfl) (fun a => ?_)
  unfold con53
  split
  · rename_i k; rintro h1; exact s4.call ok53 (show ntOk Go.Proofs.Try.prog 53 2 = true by decide +kernel) (vc53 _ k h1)
  · exact fun h => h.elim
def G6 : Ctr := G5.add 35 con35
theorem s6 : Sound Go.Proofs.Try.prog G6 := by
  refine s5.add (fun a => by unfold con35; split <;> rfl) (fun a => ?_)
  unfold con35
  split
  · rename_i l; rintro ⟨h1, h2⟩; exact s5.call ok35 (show ntOk Go.Proofs.Try.prog 35 1 = true by decide +kernel) (vc35 (fun _ => rfl) l h1 h2)
  · exact fun h => h.elim
def G7 : Ctr := G6.add 43 con43
theorem s7 : Sound Go.Proofs.Try.prog G7 := by
  refine s6.add (fun a => by unfold con43; split <;> rfl) (fun a => ?_)
  unfold con43
  split
  · rename_i l; rintro h1; exact callSat_sl (s6.call ok43 (show ntOk Go.Proofs.Try.prog 43 1 = true by decide +kernel) (vc43 _ l h1)) (fun h0 => s6.call ok43 (show ntOk Go.Proofs.Try.prog 43 1 = true by decide +kernel) (vc43n _ l h0))
  · exact fun h => h.elim
def G8 : Ctr := G7.add 34 con34
theorem s8 : Sound Go.Proofs.Try.prog G8 := by
  refine s7.add (fun a => by unfold con34; split <;> rfl) (fun a => ?_)
  unfold con34
  split
  · rename_i x k; rintro ⟨h1, h2⟩; exact s7.call ok34 (show ntOk Go.Proofs.Try.prog 34 2 = true by decide +kernel) (vc34 _ x k h1 h2)
  · exact fun h => h.elim
def G9 : Ctr := G8.add 54 con54
theorem s9 : Sound Go.Proofs.Try.prog G9 := by
  refine s8.add (fun a => by unfold con54; split <;> rfl) (fun a => ?_)
  unfold con54
  split
  · rename_i b; rintro h1; exact s8.call ok54 (show ntOk Go.Proofs.Try.prog 54 1 = true by decide +kernel) (vc54 _ b h1)
  · exact fun h => h.elim
def G10 : Ctr := G9.add 24 con24
theorem s10 : Sound Go.Proofs.Try.prog G10 := by
  refine s9.add (fun a => by unfold con24; split <;> rfl) (fun a => ?_)
  unfold con24
  split
  · rename_i b k; rintro ⟨h1, h2⟩; exact s9.call ok24 (show ntOk Go.Proofs.Try.prog 24 2 = true by decide +kernel) (vc24 _ b k h1 h2)
  · exact fun h => h.elim
def G11 : Ctr := G10.add 22 con22
theorem s11 : Sound Go.Proofs.Try.prog G11 := by
  refine s10.add (fun a => by unfold con22; split <;> rfl) (fun a => ?_)
  unfold con22
  split
  · rename_i l; rintro ⟨h1, h2⟩; exact s10.call ok22 (show ntOk Go.Proofs.Try.prog 22 1 = true by decide +kernel) (vc22 (fun _ => rfl) l h1 h2)
  · exact fun h => h.elim
def G12 : Ctr := G11.add 23 con23
theorem s12 : Sound Go.Proofs.Try.prog G12 := by
  refine s11.add (fun a => by unfold con23; split <;> rfl) (fun a => ?_)
  unfold con23
  split
  · rename_i b; rintro h1; exact s11.call ok23 (show ntOk Go.Proofs.Try.prog 23 1 = true by decide +kernel) (vc23 _ b h1)
  · exact fun h => h.elim
def G13 : Ctr := G12.add 36 con36
theorem s13 : Sound Go.Proofs.Try.prog G13 := by
  refine s12.add (fun a => by unfold con36; split <;> rfl) (fun a => ?_)
  unfold con36
  split
  · rename_i v hi lo; rintro h1; exact s12.call ok36 (show ntOk Go.Proofs.Try.prog 36 1 = true by decide +kernel) (vc36 (fun _ => rfl) v hi lo)
  · exact fun h => h.elim
def G14 : Ctr := G13.add 55 con55
theorem s14 : Sound Go.Proofs.Try.prog G14 := by
  refine s13.add (fun a => by unfold con55; split <;> rfl) (fun a => ?_)
  unfold con55
  split
  · rename_i b; rintro h1; exact s13.call ok55 (show ntOk Go.Proofs.Try.prog 55 1 = true by decide +kernel) (vc55 (fun _ => rfl) b h1)
  · exact fun h => h.elim
def G15 : Ctr := G14.add 52 con52
theorem s15 : Sound Go.Proofs.Try.prog G15 := by
  refine s14.add (fun a => by unfold con52; split <;> rfl) (fun a => ?_)
  unfold con52
  split
  · rename_i a b; rintro h1; exact s14.call ok52 (show ntOk Go.Proofs.Try.prog 52 2 = true by decide +kernel) (vc52 _ a b h1)
  · exact fun h => h.elim
def G16 : Ctr := G15.add 37 con37
theorem s16 : Sound Go.Proofs.Try.prog G16 := by
  refine s15.add (fun a => by unfold con37; split <;> rfl) (fun a => ?_)
  unfold con37
  split
  · rename_i b; rintro ⟨h1, h2⟩; exact s15.call ok37 (show ntOk Go.Proofs.Try.prog 37 1 = true by decide +kernel) (vc37 (fun _ => rfl) (fun _ => rfl) (fun _ => rfl) b h1 h2)
  · exact fun h => h.elim
def G17 : Ctr := G16.add 33 con33
theorem s17 : Sound Go.Proofs.Try.prog G17 := by
  refine s16.add (fun a => by unfold con33; split <;> rfl) (fun a => ?_)
  unfold con33
  split
  · rename_i v6 cl fl id fr tt pr sv sh sl dv dh dl b; rintro h1; exact s16.call ok33 (show ntOk Go.Proofs.Try.prog 33 1 = true by decide +kernel) (vc33 (fun _ => rfl) ⟨v6, cl, fl, id, fr, tt, pr, sv, sh, sl, dv, dh, dl, b⟩)
  · exact fun h => h.elim
def G18 : Ctr := G17.add 14 con14
theorem s18 : Sound Go.Proofs.Try.prog G18 := by
  refine s17.add (fun a => by unfold con14; split <;> rfl) (fun a => ?_)
  unfold con14
  split
  · rename_i v6 cl fl id fr tt pr sv sh sl dv dh dl b; rintro h1; exact s17.call ok14 (show ntOk Go.Proofs.Try.prog 14 1 = true by decide +kernel) (vc14 (fun _ => rfl) (fun _ => rfl) (fun _ => rfl) (fun _ => rfl) (fun _ => rfl) ⟨v6, cl, fl, id, fr, tt, pr, sv, sh, sl, dv, dh, dl, b⟩ h1)
  · exact fun h => h.elim
def G19 : Ctr := G18.add 41 con41
theorem s19 : Sound Go.Proofs.Try.prog G19 := by
  refine s18.add (fun a => by unfold con41; split <;> rfl) (fun a => ?_)
  unfold con41
  split
  · rename_i b; rintro h1; exact s18.call ok41 (show ntOk Go.Proofs.Try.prog 41 1 = true by decide +kernel) (vc41 (fun _ => rfl) (fun _ => rfl) (fun _ => rfl) b h1)
  · exact fun h => h.elim
def G20 : Ctr := G19.add 42 con42
theorem s20 : Sound Go.Proofs.Try.prog G20 := by
  refine s19.add (fun a => by unfold con42; split <;> rfl) (fun a => ?_)
  unfold con42
  split
  · rename_i b; rintro h1; exact s19.call ok42 (show ntOk Go.Proofs.Try.prog 42 1 = true by decide +kernel) (vc42 (fun _ => rfl) (fun _ => rfl) (fun _ => rfl) (fun _ => rfl) (fun _ => rfl) b h1)
  · exact fun h => h.elim
def G21 : Ctr := G20.add 16 con16
theorem s21 : Sound Go.Proofs.Try.prog G21 := by
  refine s20.add (fun a => by unfold con16; split <;> rfl) (fun a => ?_)
  unfold con16
  split
  · rename_i b; rintro h1; exact s20.call ok16 (show ntOk Go.Proofs.Try.prog 16 1 = true by decide +kernel) (vc16 (fun _ => rfl) (fun _ => rfl) b h1)
  · exact fun h => h.elim
def G22 : Ctr := G21.add 17 con17
theorem s22 : Sound Go.Proofs.Try.prog G22 := by
  refine s21.add (fun a => by unfold con17; split <;> rfl) (fun a => ?_)
  unfold con17
  split
  · rename_i b; rintro h1; exact s21.call ok17 (show ntOk Go.Proofs.Try.prog 17 1 = true by decide +kernel) (vc17 (fun _ => rfl) (fun _ => rfl) (fun _ => rfl) b h1)
  · exact fun h => h.elim
def G23 : Ctr := G22.add 26 con26
theorem s23 : Sound Go.Proofs.Try.prog G23 := by
  refine s22.add (fun a => by unfold con26; split <;> rfl) (fun a => ?_)
  unfold con26
  split
  · rename_i v6 a b; rintro h1; exact s22.call ok26 (show ntOk Go.Proofs.Try.prog 26 3 = true by decide +kernel) (vc26 _ v6 a b)
  · exact fun h => h.elim
def G24 : Ctr := G23.add 13 con13
theorem s24 : Sound Go.Proofs.Try.prog G24 := by
  refine s23.add (fun a => by unfold con13; split <;> rfl) (fun a => ?_)
  unfold con13
  split
  · rename_i v6 S D E F tt pr b; rintro h1; exact s23.call ok13 (show ntOk Go.Proofs.Try.prog 13 1 = true by decide +kernel) (vc13 (fun _ => rfl) v6 S D E F tt pr b)
  · exact fun h => h.elim
def G25 : Ctr := G24.add 12 con12
theorem s25 : Sound Go.Proofs.Try.prog G25 := by
  refine s24.add (fun a => by unfold con12; split <;> rfl) (fun a => ?_)
  unfold con12
  split
  · rintro h1; exact s24.call ok12 (show ntOk Go.Proofs.Try.prog 12 0 = true by decide +kernel) (vc12 (fun _ => rfl) (fun _ => rfl) (fun _ => rfl) (fun _ => rfl))
  · exact fun h => h.elim

theorem law5 (b : List UInt8) (m : UInt16) (h1 : b.length < 9223372036854775808) : CallSat Go.Proofs.Try.prog 5 [.sl false (.b8 b), .u16 m] [] ⟨True, .bool true, [], []⟩ :=
  s25.call ok5 (show ntOk Go.Proofs.Try.prog 5 2 = true by decide +kernel) (vc5 (fun _ => rfl) (fun _ => rfl) (fun _ => rfl) b m h1)
theorem law7 (n : UInt8) (v6 : Bool) : CallSat Go.Proofs.Try.prog 7 [.u8 n, .bool v6] [] ⟨True, .bool true, [], []⟩ :=
  s25.call ok7 (show ntOk Go.Proofs.Try.prog 7 2 = true by decide +kernel) (vc7 (fun _ => rfl) (fun _ => rfl) (fun _ => rfl) n v6)
theorem law8 (v6 : Bool) (S D E F tt pr : UInt8) (b : List UInt8) (h1 : b.length < 9223372036854775808) :
    CallSat Go.Proofs.Try.prog 8 [.agg (.gen [.bool v6, .u8 S, .u8 D, .u8 E, .u8 F, .u8 tt, .u8 pr, .sl false (.b8 b)])] [] ⟨True, .bool true, [], []⟩ :=
  s25.call ok8 (show ntOk Go.Proofs.Try.prog 8 1 = true by decide +kernel) (vc8 (fun _ => rfl) (fun _ => rfl) (fun _ => rfl) (fun _ => rfl) (fun _ => rfl) v6 S D E F tt pr b h1)
theorem eachK {s : Ck} {shs : List Ck} {avs : List AV} (h : Each Ck.is (s :: shs) avs) : ∃ a r, avs = a :: r ∧ s.is a ∧ Each Ck.is shs r := by
  cases avs with
  | nil => have := h.1; simp at this
  | cons a r => exact ⟨a, r, rfl, h.2 0 s a rfl rfl, by have := h.1; simpa using this, fun j x y h1 h2 => h.2 (j + 1) x y (by simpa using h1) (by simpa using h2)⟩
theorem packRow {l : List AV} (h : Each Ck.is [.bool, .u8, .u8, .u8, .u8, .u8, .u8, .sl8] l) : ∃ v6 S D E F tt pr b, l = [.bool v6, .u8 S, .u8 D, .u8 E, .u8 F, .u8 tt, .u8 pr, .sl false (.b8 b)] ∧ b.length < 9223372036854775808 := by
  obtain ⟨_, r0, rfl, ⟨v6, rfl⟩, h0⟩ := eachK h
  obtain ⟨_, r1, rfl, ⟨S, rfl⟩, h1⟩ := eachK h0
  obtain ⟨_, r2, rfl, ⟨D, rfl⟩, h2⟩ := eachK h1
  obtain ⟨_, r3, rfl, ⟨E, rfl⟩, h3⟩ := eachK h2
  obtain ⟨_, r4, rfl, ⟨F, rfl⟩, h4⟩ := eachK h3
  obtain ⟨_, r5, rfl, ⟨tt, rfl⟩, h5⟩ := eachK h4
  obtain ⟨_, r6, rfl, ⟨pr, rfl⟩, h6⟩ := eachK h5
  obtain ⟨_, r, rfl, ⟨b, rfl, hb⟩, h7⟩ := eachK h6
  have : r = [] := by have := h7.1; cases r <;> simp_all
  subst this
  exact ⟨v6, S, D, E, F, tt, pr, b, rfl, hb⟩
theorem law8r (l : List AV) (h : Each Ck.is [.bool, .u8, .u8, .u8, .u8, .u8, .u8, .sl8] l) : CallSat Go.Proofs.Try.prog 8 [.agg (.gen l)] [] ⟨True, .bool true, [], []⟩ := by
  obtain ⟨v6, S, D, E, F, tt, pr, b, rfl, hb⟩ := packRow h
  exact law8 v6 S D E F tt pr b hb
end Go.Vc.K

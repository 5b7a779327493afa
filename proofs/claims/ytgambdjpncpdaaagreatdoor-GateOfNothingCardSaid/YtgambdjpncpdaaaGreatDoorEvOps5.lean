/- What the evaluator computes of one operation, the model computes: binary operators, conversions, slices. -/
import Derived.Test.YtgambdjpncpdaaaGreatDoorEvOps4
namespace Go.AE

section
variable {P : Program} {T : Tab} (ok : TabOk P T) {μ : Mu} {h : Mem} {w : World} (hr : HR P μ h w)

/- whole numbers -/
theorem bits_in {k : IntKind} {a : Nat} (h : Nat.ble a (hiN k) = true) : BitVec.ofInt k.bits (Int.ofNat a) = BitVec.ofNat k.bits a ∧ a < 2 ^ k.bits ∧ a ≤ hiN k := by
  have := Nat.le_of_ble_eq_true h
  refine ⟨by simp, ?_, this⟩
  cases k <;> simp only [hiN, IntKind.bits] at this ⊢ <;> omega
theorem wrap_hi {k : IntKind} {n : Nat} (h : n ≤ hiN k) : k.wrap (n : Int) = n := by
  cases k <;> simp only [hiN] at h
  · exact IntWalk.i8_in _ (by omega)
  · exact IntWalk.i16_in _ (by omega)
  · exact IntWalk.i32_in _ (by omega)
  · exact IntWalk.i64_in _ (by omega)
  · exact IntWalk.u8_in _ (by omega)
  · exact IntWalk.u16_in _ (by omega)
  · exact IntWalk.u32_in _ (by omega)
  · exact IntWalk.u64_in _ (by omega)
theorem hi_pow (k : IntKind) : ∃ e, hiN k + 1 = 2 ^ e ∧ e ≤ k.bits := by
  cases k
  · exact ⟨7, rfl, by decide⟩
  · exact ⟨15, rfl, by decide⟩
  · exact ⟨31, rfl, by decide⟩
  · exact ⟨63, rfl, by decide⟩
  · exact ⟨8, rfl, by decide⟩
  · exact ⟨16, rfl, by decide⟩
  · exact ⟨32, rfl, by decide⟩
  · exact ⟨64, rfl, by decide⟩

theorem bits_ok {op : BinOp} {k : IntKind} {a b : Int} {r : Rs} (hv : bitsV h op k a b = some r) :
    ∃ v, r = .value (.int k v) h ∧ (Op.intBits op k a b).run P w = .ok (.int k v) w := by
  unfold bitsV at hv
  split at hv
  · rename_i a b
    cases hb : (Nat.ble a (hiN k) && Nat.ble b (hiN k)) with
    | false => rw [hb] at hv; cases hv
    | true =>
      rw [hb] at hv
      rw [Bool.and_eq_true] at hb
      obtain ⟨ha1, ha2, ha3⟩ := bits_in hb.1
      obtain ⟨hb1, hb2, hb3⟩ := bits_in hb.2
      obtain ⟨e, he1, he2⟩ := hi_pow k
      have hae : a < 2 ^ e := by omega
      have hbe : b < 2 ^ e := by omega
      simp only at hv
      cases op <;> simp only [bits] at hv
      case and =>
        have := int_some hv
        subst this
        refine ⟨_, rfl, ?_⟩
        have hlt : Nat.land a b ≤ hiN k := by have := Nat.and_lt_two_pow a hbe; have e1 : Nat.land a b = a &&& b := rfl; omega
        simp only [Op.intBits, ha1, hb1, Sem.run_pure, BitVec.toNat_and, BitVec.toNat_ofNat, Nat.mod_eq_of_lt ha2, Nat.mod_eq_of_lt hb2]
        rw [show a &&& b = Nat.land a b from rfl, wrap_hi hlt]; rfl
      case or =>
        have := int_some hv
        subst this
        refine ⟨_, rfl, ?_⟩
        have hlt : Nat.lor a b ≤ hiN k := by have := Nat.or_lt_two_pow hae hbe; have e1 : Nat.lor a b = a ||| b := rfl; omega
        simp only [Op.intBits, ha1, hb1, Sem.run_pure, BitVec.toNat_or, BitVec.toNat_ofNat, Nat.mod_eq_of_lt ha2, Nat.mod_eq_of_lt hb2]
        rw [show a ||| b = Nat.lor a b from rfl, wrap_hi hlt]; rfl
      case xor =>
        have := int_some hv
        subst this
        refine ⟨_, rfl, ?_⟩
        have hlt : Nat.xor a b ≤ hiN k := by have := Nat.xor_lt_two_pow hae hbe; have e1 : Nat.xor a b = a ^^^ b := rfl; omega
        simp only [Op.intBits, ha1, hb1, Sem.run_pure, BitVec.toNat_xor, BitVec.toNat_ofNat, Nat.mod_eq_of_lt ha2, Nat.mod_eq_of_lt hb2]
        rw [show a ^^^ b = Nat.xor a b from rfl, wrap_hi hlt]; rfl
      case andNot =>
        have := int_some hv
        subst this
        refine ⟨_, rfl, ?_⟩
        have hand : Nat.land a b < 2 ^ e := by have := Nat.and_lt_two_pow a hbe; have e1 : Nat.land a b = a &&& b := rfl; omega
        have hlt : Nat.xor a (Nat.land a b) ≤ hiN k := by
          have := Nat.xor_lt_two_pow hae hand; have e1 : Nat.xor a (Nat.land a b) = a ^^^ (Nat.land a b) := rfl; omega
        have hbv : (BitVec.ofNat k.bits a &&& ~~~ BitVec.ofNat k.bits b).toNat = Nat.xor a (Nat.land a b) := by
          have : BitVec.ofNat k.bits a &&& ~~~ BitVec.ofNat k.bits b = BitVec.ofNat k.bits a ^^^ (BitVec.ofNat k.bits a &&& BitVec.ofNat k.bits b) := by
            ext i hi
            simp only [BitVec.getElem_and, BitVec.getElem_not, BitVec.getElem_xor]
            cases (BitVec.ofNat k.bits a)[i] <;> cases (BitVec.ofNat k.bits b)[i] <;> rfl
          rw [this, BitVec.toNat_xor, BitVec.toNat_and, BitVec.toNat_ofNat, BitVec.toNat_ofNat, Nat.mod_eq_of_lt ha2, Nat.mod_eq_of_lt hb2]
          rfl
        simp only [Op.intBits, ha1, hb1, Sem.run_pure, hbv]
        rw [wrap_hi hlt]; rfl
      all_goals cases hv
  · cases hv

theorem shiftN_eq (k : IntKind) (b : Nat) : shiftN k b = min b k.bits := rfl

theorem ints_ok {op : BinOp} {k k' : IntKind} {a b : Int} {r : Rs} (t : TypeId) (hv : intsV h op k k' a b = some r) :
    ∃ v, r = .value v h ∧ VR μ v v ∧ (binOp op t (.int k a) (.int k' b)).run P w = .ok v w := by
  have hsub : ∀ x y : Int, Int.sub x y = x - y := fun _ _ => rfl
  unfold intsV at hv
  cases hc : (kindEq k k' || isShift op) with
  | false => rw [hc] at hv; cases hv
  | true =>
    rw [hc] at hv
    simp only at hv
    cases op
    case shl =>
      replace hv : shlV h k a b = some r := hv
      unfold shlV at hv
      split at hv
      · rename_i y
        split at hv
        · rename_i x
          have := int_some hv
          subst this
          refine ⟨_, rfl, .int _ _, ?_⟩
          have e : Nat.shiftLeft x (min y k.bits) = x * 2 ^ min y k.bits := Nat.shiftLeft_eq _ _
          simp only [binOp, Op.shift, Int.ofNat_eq_natCast]
          rw [if_neg (by omega)]
          simp only [Sem.run_pure, wr_eq, Int.toNat_natCast, shiftN_eq, e, Int.natCast_mul, Int.natCast_pow]
          rfl
        · cases hv
      · cases hv
    case shr =>
      replace hv : shrV h k a b = some r := hv
      unfold shrV at hv
      split at hv
      · rename_i y
        split at hv
        · rename_i x
          have := int_some hv
          subst this
          refine ⟨_, rfl, .int _ _, ?_⟩
          have e : Nat.shiftRight x (min y k.bits) = x / 2 ^ min y k.bits := Nat.shiftRight_eq_div_pow _ _
          simp only [binOp, Op.shift, Int.ofNat_eq_natCast]
          rw [if_neg (by omega)]
          simp only [Sem.run_pure, Int.toNat_natCast, shiftN_eq, e]
          have e2 : ((2 : Int) ^ min y k.bits) = ((2 ^ min y k.bits : Nat) : Int) := by simp
          rw [e2, Int.fdiv_eq_ediv_of_nonneg _ (Int.natCast_nonneg _)]
          rfl
        · cases hv
      · cases hv
    all_goals
      have hk : k = k' := kindEq_eq (by simpa [isShift] using hc)
      subst hk
    case add =>
      have := int_some (show int h k (wr k (Int.add a b)) = some r from hv); subst this
      exact ⟨_, rfl, .int _ _, by simp [binOp, Op.intArith, wr_eq]⟩
    case sub =>
      have := int_some (show int h k (wr k (Int.sub a b)) = some r from hv); subst this
      exact ⟨_, rfl, .int _ _, by simp [binOp, Op.intArith, wr_eq, hsub]⟩
    case mul =>
      have := int_some (show int h k (wr k (Int.mul a b)) = some r from hv); subst this
      exact ⟨_, rfl, .int _ _, by simp [binOp, Op.intArith, wr_eq]⟩
    case quo =>
      have hv : intDivV h k a b = some r := hv
      unfold intDivV at hv
      rw [intEq_eq] at hv
      cases hb : (b == 0) with
      | true => rw [hb] at hv; cases hv
      | false =>
        rw [hb] at hv
        have := int_some hv; subst this
        have hb0 : b ≠ 0 := by simpa using hb
        exact ⟨_, rfl, .int _ _, by simp [binOp, Op.intDiv, wr_eq, hb0]⟩
    case rem =>
      have hv : intRemV h k a b = some r := hv
      unfold intRemV at hv
      rw [intEq_eq] at hv
      cases hb : (b == 0) with
      | true => rw [hb] at hv; cases hv
      | false =>
        rw [hb] at hv
        have := int_some hv; subst this
        have hb0 : b ≠ 0 := by simpa using hb
        exact ⟨_, rfl, .int _ _, by simp [binOp, Op.intDiv, hb0]⟩
    case and =>
      obtain ⟨v, h1, h2⟩ := bits_ok (P := P) (w := w) (show bitsV h .and k a b = some r from hv)
      exact ⟨_, h1, .int _ _, by simpa [binOp] using h2⟩
    case or =>
      obtain ⟨v, h1, h2⟩ := bits_ok (P := P) (w := w) (show bitsV h .or k a b = some r from hv)
      exact ⟨_, h1, .int _ _, by simpa [binOp] using h2⟩
    case xor =>
      obtain ⟨v, h1, h2⟩ := bits_ok (P := P) (w := w) (show bitsV h .xor k a b = some r from hv)
      exact ⟨_, h1, .int _ _, by simpa [binOp] using h2⟩
    case andNot =>
      obtain ⟨v, h1, h2⟩ := bits_ok (P := P) (w := w) (show bitsV h .andNot k a b = some r from hv)
      exact ⟨_, h1, .int _ _, by simpa [binOp] using h2⟩
    case eql =>
      have := bool_some (show bool h (intEq a b) = some r from hv); subst this
      exact ⟨_, rfl, .bool _, by simp [binOp, Op.intCmp, intEq_eq]⟩
    case neq =>
      have := bool_some (show bool h (!intEq a b) = some r from hv); subst this
      refine ⟨_, rfl, .bool _, ?_⟩
      simp only [binOp, Op.intCmp, intEq_eq, ne_eq, not_true, if_false, Sem.run_pure]
      rfl
    case lss =>
      have := bool_some (show bool h (intLt a b) = some r from hv); subst this
      exact ⟨_, rfl, .bool _, by simp [binOp, Op.intCmp, intLt_eq]⟩
    case leq =>
      have := bool_some (show bool h (!intLt b a) = some r from hv); subst this
      refine ⟨_, rfl, .bool _, ?_⟩
      simp only [binOp, Op.intCmp, intLt_eq, ne_eq, not_true, if_false, Sem.run_pure]
      congr 2
      rw [Bool.eq_iff_iff]; simp
    case gtr =>
      have := bool_some (show bool h (intLt b a) = some r from hv); subst this
      exact ⟨_, rfl, .bool _, by simp [binOp, Op.intCmp, intLt_eq]⟩
    case geq =>
      have := bool_some (show bool h (!intLt a b) = some r from hv); subst this
      refine ⟨_, rfl, .bool _, ?_⟩
      simp only [binOp, Op.intCmp, intLt_eq, ne_eq, not_true, if_false, Sem.run_pure]
      congr 2
      rw [Bool.eq_iff_iff]; simp

theorem isEq_eq (o : Option Ordering) : isEq o = (o == some .eq) := by cases o with | none => rfl | some x => cases x <;> rfl
theorem isLt_eq (o : Option Ordering) : isLt o = (o == some .lt) := by cases o with | none => rfl | some x => cases x <;> rfl
theorem isGt_eq (o : Option Ordering) : isGt o = (o == some .gt) := by cases o with | none => rfl | some x => cases x <;> rfl
theorem isLe_eq (o : Option Ordering) : isLe o = (o == some .lt || o == some .eq) := by cases o with | none => rfl | some x => cases x <;> rfl
theorem isGe_eq (o : Option Ordering) : isGe o = (o == some .gt || o == some .eq) := by cases o with | none => rfl | some x => cases x <;> rfl

theorem floatR_some {k : FloatKind} {o : Option Nat} {r : Rs} (hv : floatR h k o = some r) : ∃ x, o = some x ∧ r = .value (.float k x) h := by
  unfold floatR at hv
  cases o with
  | none => cases hv
  | some x => simp only [frN_eq, Option.some.injEq] at hv; exact ⟨x, rfl, hv.symm⟩

theorem floats_ok {op : BinOp} {k k' : FloatKind} {a b : Nat} {r : Rs} (t : TypeId) (hv : floatsV h op k k' a b = some r) :
    ∃ v, r = .value v h ∧ VR μ v v ∧ (binOp op t (.float k a) (.float k' b)).run P w = .ok v w := by
  unfold floatsV at hv
  cases hk : fkindEq k k' with
  | false => rw [hk] at hv; cases hv
  | true =>
    rw [hk] at hv
    have hk := fkindEq_eq hk
    subst hk
    simp only at hv
    unfold floatOp at hv
    split at hv
    · obtain ⟨x, h1, rfl⟩ := floatR_some hv
      exact ⟨_, rfl, .float _ _, by simp [binOp, Op.floatArith, h1]⟩
    · obtain ⟨x, h1, rfl⟩ := floatR_some hv
      exact ⟨_, rfl, .float _ _, by simp [binOp, Op.floatArith, h1]⟩
    · obtain ⟨x, h1, rfl⟩ := floatR_some hv
      exact ⟨_, rfl, .float _ _, by simp [binOp, Op.floatArith, h1]⟩
    · obtain ⟨x, h1, rfl⟩ := floatR_some hv
      exact ⟨_, rfl, .float _ _, by simp [binOp, Op.floatArith, h1]⟩
    · have := bool_some hv; subst this
      exact ⟨_, rfl, .bool _, by simp [binOp, Op.floatCmp, isEq_eq]⟩
    · have := bool_some hv; subst this
      exact ⟨_, rfl, .bool _, by simp [binOp, Op.floatCmp, isEq_eq, bne]⟩
    · have := bool_some hv; subst this
      exact ⟨_, rfl, .bool _, by simp [binOp, Op.floatCmp, isLt_eq]⟩
    · have := bool_some hv; subst this
      exact ⟨_, rfl, .bool _, by simp [binOp, Op.floatCmp, isLe_eq]⟩
    · have := bool_some hv; subst this
      exact ⟨_, rfl, .bool _, by simp [binOp, Op.floatCmp, isGt_eq]⟩
    · have := bool_some hv; subst this
      exact ⟨_, rfl, .bool _, by simp [binOp, Op.floatCmp, isGe_eq]⟩
    · cases hv

theorem txt_size (s : ByteArray) : (txt s).length = s.size := by simp [txt]
theorem ofTxt_append (a b : ByteArray) : ofTxt (txt a ++ txt b) = .string (a ++ b) := by
  have e : (⟨⟨txt a ++ txt b⟩⟩ : ByteArray) = a ++ b := by
    apply ByteArray.ext
    rw [ByteArray.data_append]
    exact Array.ext' (by simp [txt])
  unfold ofTxt
  rw [e]

theorem texts_ok {op : BinOp} {a b : ByteArray} {r : Rs} (t : TypeId) (hv : textOp h op (txt a) (txt b) = some r) :
    ∃ v, r = .value v h ∧ VR μ v v ∧ (binOp op t (.string a) (.string b)).run P w = .ok v w := by
  have e1 : ∀ s : ByteArray, s.toList = txt s := fun s => ByteArray.toList_eq s
  unfold textOp at hv
  split at hv
  · unfold catV at hv
    cases hb : Nat.ble ((txt a).length + (txt b).length) 4294967296 with
    | false => rw [hb] at hv; cases hv
    | true =>
      rw [hb] at hv
      simp only [Option.some.injEq] at hv
      subst hv
      have hb := Nat.le_of_ble_eq_true hb
      rw [txt_size, txt_size] at hb
      refine ⟨_, rfl, ?_, ?_⟩
      · rw [ofTxt_append]; exact .string _
      · simp only [binOp, Op.stringOp]
        rw [if_neg (by have e2 : IntKind.i64.max = 9223372036854775807 := by decide
                       rw [e2]; omega), Sem.run_pure, ofTxt_append]
  · have := bool_some hv; subst this
    exact ⟨_, rfl, .bool _, by simp [binOp, Op.stringOp, beqL_eq, e1]⟩
  · have := bool_some hv; subst this
    exact ⟨_, rfl, .bool _, by simp [binOp, Op.stringOp, beqL_eq, e1]⟩
  · have := bool_some hv; subst this
    exact ⟨_, rfl, .bool _, by simp [binOp, Op.stringOp, ltL_eq, e1]⟩
  · have := bool_some hv; subst this
    exact ⟨_, rfl, .bool _, by simp [binOp, Op.stringOp, ltL_eq, beqL_eq, e1]⟩
  · have := bool_some hv; subst this
    exact ⟨_, rfl, .bool _, by simp [binOp, Op.stringOp, ltL_eq, beqL_eq, e1]⟩
  · have := bool_some hv; subst this
    exact ⟨_, rfl, .bool _, by simp [binOp, Op.stringOp, ltL_eq, e1]⟩
  · cases hv

include ok in
theorem eqA_ok {t : TypeId} {x y x' y' : Value} (hx : VR μ x x') (hy : VR μ y y') {b : Bool} (hv : eqA T t x y = some b) :
    (Op.equal t x' y').run P w = .ok b w := by
  unfold eqA at hv
  unfold Op.equal
  have hd : Op.maxDepth = 9999 + 1 := rfl
  rw [hd]
  unfold Op.equalIn
  split at hv
  all_goals first | (cases hv; done) | skip
  · rename_i hu; cases hx; cases hy; cases hv
    simp [run_und ok hu]
  · rename_i hu; cases hx; cases hv
    cases hy <;> simp [run_und ok hu]
  · rename_i hu; cases hx; cases hy; cases hv
    simp [run_und ok hu]
  · rename_i a b e hu
    obtain ⟨ha, L, hl, rfl⟩ := ptr_inv hx
    obtain ⟨hb, M, hm, rfl⟩ := ptr_inv hy
    unfold eqPtr at hv
    split at hv
    · rename_i n hz
      cases he : Nat.beq a.block b.block with
      | false => rw [he] at hv; cases hv
      | true =>
        rw [he] at hv
        simp only [Option.some.injEq] at hv
        have he := Nat.eq_of_beq_eq_true he
        rw [he, hm] at hl
        cases hl
        simp only [Sem.run_bind, run_und ok hu, Result.andThen_ok, run_size ok hz]
        rw [if_pos (by omega)]
        simp only [sameAddr, beq_self_eq_true, if_true, Sem.run_pure]
        congr 1
        rw [← hv, Bool.eq_iff_iff]
        simp [Nat.beq_eq]
    · cases hv
  · rename_i hu; cases hx; cases hy; cases hv
    simp [run_und ok hu]
  · rename_i hu; cases hx; cases hy; cases hv
    simp [run_und ok hu]
  · rename_i b _ _ _ hu
    obtain ⟨_, _, rfl⟩ := slice_none_inv hx
    cases hv
    cases b with
    | none => obtain ⟨_, _, rfl⟩ := slice_none_inv hy; simp [run_und ok hu]
    | some b => obtain ⟨_, _, c, c', rfl, _⟩ := slice_some_inv hy; simp [run_und ok hu]
  · rename_i hu
    obtain ⟨_, _, c, c', rfl, _⟩ := slice_some_inv hx
    obtain ⟨_, _, rfl⟩ := slice_none_inv hy
    cases hv
    simp [run_und ok hu]
  · rename_i hu; cases hx; cases hv
    cases hy <;> simp [run_und ok hu]
  · rename_i hu; cases hx; cases hy; cases hv
    simp [run_und ok hu]
  · rename_i hu; cases hx; cases hy; cases hv
    simp [run_und ok hu]
  · rename_i hu
    cases hx
    obtain ⟨a', b', rfl, _⟩ := hy.func_inv
    cases hv
    simp [run_und ok hu]
  · rename_i hu
    cases hy
    obtain ⟨a', b', rfl, _⟩ := hx.func_inv
    cases hv
    simp [run_und ok hu]

/-- neither both nil nor both aggregates -/
def pairOk : Value → Value → Bool
  | .nilIface, .nilIface => false
  | .agg _, .agg _ => false
  | .chan _, _ => false
  | _, .chan _ => false
  | _, _ => true
theorem guard_run {op : BinOp} {t : TypeId} {x y : Operand} {a b : Value} (hp : pairOk a b = true) : (eqGuard op t x y a b).run P w = .ok () w := by
  unfold eqGuard
  cases op <;> simp only [] <;> first | rfl | skip
  all_goals (cases a <;> first | rfl | skip) <;> (cases b <;> first | rfl | (simp [pairOk] at hp))
theorem pairOk_of {x y x' y' : Value} (hx : VR μ x x') (hy : VR μ y y') (hp : pairOk x y = true) : pairOk x' y' = true := by
  cases hx <;> first | (simp [pairOk] at hp; done) | skip
  all_goals cases hy <;> first | rfl | (simp [pairOk] at hp; done)

theorem guard_nil {op : BinOp} {t : TypeId} {ox oy : Operand} (hc : (isConst ox || isConst oy) = true) : (eqGuard op t ox oy .nilIface .nilIface).run P w = .ok () w := by
  unfold eqGuard
  cases op <;> (cases ox <;> cases oy <;> first | rfl | (simp [isConst] at hc))

theorem shiftI_ok {c : Int} {k : Nat} (h : shiftI c = some k) : (k : Int) = c + 9223372036854775808 := by
  unfold shiftI at h
  split at h
  · cases h
    show ((Nat.add _ 9223372036854775808 : Nat) : Int) = _
    simp only [Nat.add_eq, Int.natCast_add, Int.ofNat_eq_natCast]
    rfl
  · rename_i n
    cases hb : Nat.blt n 9223372036854775808 with
    | false => rw [hb] at h; cases h
    | true =>
      rw [hb] at h
      cases h
      have : n < 9223372036854775808 := Nat.le_of_ble_eq_true hb
      simp only [Nat.sub_eq, Int.negSucc_eq]
      omega
theorem ltN_ok {lo hi k : Nat} {z c : Int} {b : Bool} (h1 : (lo : Int) ≤ z + 9223372036854775808) (h2 : z + 9223372036854775808 ≤ hi) (hk : (k : Int) = c + 9223372036854775808)
    (h : ltN lo hi k = some b) : b = intLt z c := by
  unfold ltN at h
  rw [intLt_eq]
  cases hb : Nat.blt hi k with
  | true =>
    rw [hb] at h; cases h
    have : hi < k := Nat.le_of_ble_eq_true hb
    exact (decide_eq_true (by omega)).symm
  | false =>
    rw [hb] at h
    cases hc : Nat.ble k lo with
    | true =>
      rw [hc] at h; cases h
      have : k ≤ lo := Nat.le_of_ble_eq_true hc
      exact (decide_eq_false (by omega)).symm
    | false => rw [hc] at h; cases h
theorem gtN_ok {lo hi k : Nat} {z c : Int} {b : Bool} (h1 : (lo : Int) ≤ z + 9223372036854775808) (h2 : z + 9223372036854775808 ≤ hi) (hk : (k : Int) = c + 9223372036854775808)
    (h : gtN lo hi k = some b) : b = intLt c z := by
  unfold gtN at h
  rw [intLt_eq]
  cases hb : Nat.blt k lo with
  | true =>
    rw [hb] at h; cases h
    have : k < lo := Nat.le_of_ble_eq_true hb
    exact (decide_eq_true (by omega)).symm
  | false =>
    rw [hb] at h
    cases hc : Nat.ble hi k with
    | true =>
      rw [hc] at h; cases h
      have : hi ≤ k := Nat.le_of_ble_eq_true hc
      exact (decide_eq_false (by omega)).symm
    | false => rw [hc] at h; cases h
theorem boolO_some {o : Option Bool} {r : Rs} (hv : boolO h o = some r) : ∃ b, o = some b ∧ r = .value (.bool b) h := by
  cases o with
  | none => cases hv
  | some b => exact ⟨b, rfl, bool_some hv⟩
theorem notO_some {o : Option Bool} {b : Bool} (hv : notO o = some b) : o = some (!b) := by
  cases o with
  | none => cases hv
  | some c => cases hv; cases c <;> rfl
theorem bool_is (b : Bool) : bool h b = some (.value (.bool b) h) := by cases b <;> rfl
/-- A number of which bounds are known, held against a number. -/
theorem cmpN_ok {op : BinOp} {lo hi : Nat} {z c : Int} {r : Rs} (t : TypeId) (h1 : (lo : Int) ≤ z + 9223372036854775808) (h2 : z + 9223372036854775808 ≤ hi)
    (hv : boolO h (cmpN op lo hi (shiftI c)) = some r) : ∃ v, r = .value v h ∧ VR μ v v ∧ (binOp op t (.int .i64 z) (.int .i64 c)).run P w = .ok v w := by
  obtain ⟨b, hb, rfl⟩ := boolO_some hv
  cases hs : shiftI c with
  | none => rw [hs] at hb; cases hb
  | some k =>
  rw [hs] at hb
  have hk := shiftI_ok hs
  have key : ∀ b', intsV h op .i64 .i64 z c = bool h b' → b = b' → ∃ v, Rs.value (.bool b) h = .value v h ∧ VR μ v v ∧ (binOp op t (.int .i64 z) (.int .i64 c)).run P w = .ok v w := by
    rintro b' he rfl
    rw [bool_is] at he
    exact ints_ok (P := P) (w := w) (μ := μ) t he
  simp only [cmpN] at hb
  cases op <;> simp only at hb
  case lss => exact key _ rfl (ltN_ok h1 h2 hk hb)
  case geq => exact key (!intLt z c) rfl (by have := ltN_ok h1 h2 hk (notO_some hb); rw [← this]; simp)
  case gtr => exact key _ rfl (gtN_ok h1 h2 hk hb)
  case leq => exact key (!intLt c z) rfl (by have := gtN_ok h1 h2 hk (notO_some hb); rw [← this]; simp)
  all_goals cases hb


include ok in
theorem bin_ok {op : BinOp} {t : TypeId} {ox oy : Operand} {x y x' y' : Value} (hx : VR μ x x') (hy : VR μ y y') {r : Rs}
    (hv : binV T h op t (isConst ox || isConst oy) (some x) (some y) = some r) :
    ∃ v v', r = .value v h ∧ VR μ v v' ∧ RunV P w (do eqGuard op t ox oy x' y'; binOp op t x' y') v' := by
  unfold binV at hv
  split at hv
  · rename_i e1 e2; cases e1; cases e2
    cases hx; cases hy
    cases hu : T.und t with
    | none => rw [hu] at hv; cases hv
    | some d =>
      rw [hu] at hv
      cases d with
      | interface ms =>
        simp only at hv
        unfold nilsV at hv
        split at hv
        · rename_i hc
          cases hv
          refine ⟨_, _, rfl, .bool true, ?_⟩
          simp only [RunV, Sem.run_bind, guard_nil hc, Result.andThen_ok, binOp, Op.equal, Sem.run_pure]
          have hd : Op.maxDepth = 9999 + 1 := rfl
          rw [hd]; unfold Op.equalIn
          simp [run_und ok hu]
        · rename_i hc
          cases hv
          refine ⟨_, _, rfl, .bool false, ?_⟩
          simp only [RunV, Sem.run_bind, guard_nil hc, Result.andThen_ok, binOp, Op.equal, Sem.run_pure]
          have hd : Op.maxDepth = 9999 + 1 := rfl
          rw [hd]; unfold Op.equalIn
          simp [run_und ok hu]
        · cases hv
      | _ => simp only at hv; cases hv
  · rename_i k a k' b e1 e2; cases e1; cases e2
    cases hx; cases hy
    obtain ⟨v, h1, h2, h3⟩ := ints_ok (P := P) (w := w) (μ := μ) t hv
    refine ⟨v, v, h1, h2, ?_⟩
    simp only [RunV, Sem.run_bind, guard_run (P := P) (w := w) (a := .int k a) (b := .int k' b) rfl, Result.andThen_ok, h3]
  · rename_i k a k' b e1 e2; cases e1; cases e2
    cases hx; cases hy
    obtain ⟨v, h1, h2, h3⟩ := floats_ok (P := P) (w := w) (μ := μ) t hv
    refine ⟨v, v, h1, h2, ?_⟩
    simp only [RunV, Sem.run_bind, guard_run (P := P) (w := w) (a := .float k a) (b := .float k' b) rfl, Result.andThen_ok, h3]
  · rename_i a b e1 e2; cases e1; cases e2
    cases hx; cases hy
    obtain ⟨v, h1, h2, h3⟩ := texts_ok (P := P) (w := w) (μ := μ) t hv
    refine ⟨v, v, h1, h2, ?_⟩
    simp only [RunV, Sem.run_bind, guard_run (P := P) (w := w) (a := .string a) (b := .string b) rfl, Result.andThen_ok, h3]
  · rename_i lo hi c e1 e2; cases e1; cases e2
    cases hy
    cases hx with
    | num _ _ z h1 h2 =>
    obtain ⟨v, h3, h4, h5⟩ := cmpN_ok (P := P) (w := w) (μ := μ) t h1 h2 hv
    refine ⟨v, v, h3, h4, ?_⟩
    simp only [RunV, Sem.run_bind, guard_run (P := P) (w := w) (a := .int .i64 z) (b := .int .i64 c) rfl, Result.andThen_ok, h5]
  · rename_i e1 e2; cases e1; cases e2
    have hpair : pairOk x y = true ∨ eqA T t x y = none := by
      cases hp : pairOk x y with
      | true => exact .inl rfl
      | false =>
        right
        unfold pairOk at hp
        split at hp
        · simp [eqA]
        · simp [eqA]
        · rfl
        · unfold eqA
          split <;> first | rfl | (rename_i e _; cases e) | (rename_i e; cases e) | simp_all
        · cases hp
    unfold eqV at hv
    split at hv
    · unfold boolO at hv
      cases he : eqA T t x y with
      | none => rw [he] at hv; cases hv
      | some b =>
        rw [he] at hv
        have := bool_some hv; subst this
        have hp : pairOk x y = true := hpair.resolve_right (by rw [he]; simp)
        refine ⟨_, _, rfl, .bool b, ?_⟩
        have hq := eqA_ok (w := w) ok hx hy he
        have hb : binOp .eql t x' y' = (do pure (.bool (← Op.equal t x' y')) : Sem Value) := by
          unfold eqA at he
          split at he <;> first
            | (cases he; done)
            | skip
          all_goals (cases hx <;> cases hy <;> rfl)
        simp only [RunV, Sem.run_bind, guard_run (P := P) (w := w) (pairOk_of hx hy hp), Result.andThen_ok, hb, hq, Sem.run_pure]
    · unfold boolO notO at hv
      cases he : eqA T t x y with
      | none => rw [he] at hv; cases hv
      | some b =>
        rw [he] at hv
        have := bool_some hv; subst this
        have hp : pairOk x y = true := hpair.resolve_right (by rw [he]; simp)
        refine ⟨_, _, rfl, .bool (!b), ?_⟩
        have hq := eqA_ok (w := w) ok hx hy he
        have hb : binOp .neq t x' y' = (do pure (.bool (!(← Op.equal t x' y'))) : Sem Value) := by
          unfold eqA at he
          split at he <;> first
            | (cases he; done)
            | skip
          all_goals (cases hx <;> cases hy <;> rfl)
        simp only [RunV, Sem.run_bind, guard_run (P := P) (w := w) (pairOk_of hx hy hp), Result.andThen_ok, hb, hq, Sem.run_pure]
    · cases hv
  · cases hv
end
end Go.AE

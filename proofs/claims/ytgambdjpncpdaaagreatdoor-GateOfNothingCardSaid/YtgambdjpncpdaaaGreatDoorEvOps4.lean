/- What the evaluator computes of one operation, the model computes: operators, addresses, conversions. -/
import Derived.Test.YtgambdjpncpdaaaGreatDoorEvOps3
import Derived.Laws.Strings
import Derived.Laws.BytesString
import Derived.Laws.Bits64
namespace Go.AE

section
variable {P : Program} {T : Tab} (ok : TabOk P T) {μ : Mu} {h : Mem} {w : World} (hr : HR P μ h w)

theorem wr_eq (k : IntKind) (n : Int) : wr k n = k.wrap n := by
  have hw64 : wrap64 n = IntKind.i64.wrap n := by
    unfold wrap64
    cases n with
    | ofNat m =>
      simp only
      cases hb : Nat.ble m 9223372036854775807 with
      | false => rfl
      | true =>
        have := Nat.le_of_ble_eq_true hb
        exact (IntWalk.i64_in _ ⟨by simp only [Int.ofNat_eq_natCast]; omega, by simp only [Int.ofNat_eq_natCast]; omega⟩).symm
    | negSucc m =>
      simp only
      cases hb : Nat.ble m 9223372036854775807 with
      | false => rfl
      | true =>
        have := Nat.le_of_ble_eq_true hb
        show Int.negSucc m = IntKind.i64.wrap (Int.negSucc m)
        exact (IntWalk.i64_in _ ⟨by omega, by omega⟩).symm
  cases k with
  | i64 => exact hw64
  | u8 =>
    show wrapU 255 .u8 n = _
    unfold wrapU
    cases n with
    | negSucc m => rfl
    | ofNat m =>
      simp only
      rw [IntKind.wrap_u8]
      cases hb : Nat.ble m 255 with
      | false => rfl
      | true =>
        have := Nat.le_of_ble_eq_true hb
        simp only [Int.ofNat_eq_natCast]
        omega
  | u32 =>
    show wrapU 4294967295 .u32 n = _
    unfold wrapU
    cases n with
    | negSucc m => rfl
    | ofNat m =>
      simp only
      rw [IntKind.wrap_u32]
      cases hb : Nat.ble m 4294967295 with
      | false => rfl
      | true =>
        have := Nat.le_of_ble_eq_true hb
        simp only [Int.ofNat_eq_natCast]
        omega
  | u64 =>
    show wrapU 18446744073709551615 .u64 n = _
    unfold wrapU
    cases n with
    | negSucc m => rfl
    | ofNat m =>
      simp only
      rw [IntKind.wrap_u64]
      cases hb : Nat.ble m 18446744073709551615 with
      | false => rfl
      | true =>
        have := Nat.le_of_ble_eq_true hb
        simp only [Int.ofNat_eq_natCast]
        omega
  | i8 => rfl
  | i16 => rfl
  | i32 => rfl
  | u16 => rfl

theorem intLt_eq (a b : Int) : intLt a b = decide (a < b) := by
  cases a with
  | ofNat x =>
    cases b with
    | ofNat y => simp only [intLt, Nat.blt, Int.ofNat_eq_natCast]; rw [Bool.eq_iff_iff]; simp [Nat.ble_eq]; omega
    | negSucc y => simp only [intLt]; rw [Bool.eq_iff_iff]; simp; omega
  | negSucc x =>
    cases b with
    | ofNat y => simp only [intLt]; rw [Bool.eq_iff_iff]; simp; omega
    | negSucc y => simp only [intLt, Nat.blt]; rw [Bool.eq_iff_iff]; simp [Nat.ble_eq]; omega
theorem intEq_eq (a b : Int) : intEq a b = (a == b) := by
  cases a with
  | ofNat x =>
    cases b with
    | ofNat y => simp only [intEq]; rw [Bool.eq_iff_iff]; simp [Nat.beq_eq]; omega
    | negSucc y => simp only [intEq]; rw [Bool.eq_iff_iff]; simp
  | negSucc x =>
    cases b with
    | ofNat y => simp only [intEq]; rw [Bool.eq_iff_iff]; simp
    | negSucc y => simp only [intEq]; rw [Bool.eq_iff_iff]; simp [Nat.beq_eq]
theorem kindEq_eq {a b : IntKind} (h : kindEq a b = true) : a = b := by cases a <;> cases b <;> first | rfl | (cases h)
theorem fkindEq_eq {a b : FloatKind} (h : fkindEq a b = true) : a = b := by cases a <;> cases b <;> first | rfl | (cases h)

theorem beqL_eq : ∀ (a b : List UInt8), beqL a b = (a == b)
  | [], [] => rfl
  | [], _ :: _ => rfl
  | _ :: _, [] => rfl
  | a :: x, b :: y => by
    unfold beqL
    cases h : Nat.beq a.toNat b.toNat with
    | true =>
      have : a = b := UInt8.toNat_inj.1 (Nat.eq_of_beq_eq_true h)
      subst this
      simp [beqL_eq x y]
    | false =>
      have : a ≠ b := fun e => by subst e; simp at h
      simp [this]
theorem ltL_eq : ∀ (a b : List UInt8), ltL a b = Op.bytesLess a b
  | [], [] => rfl
  | _ :: _, [] => rfl
  | [], _ :: _ => rfl
  | a :: x, b :: y => by
    unfold ltL Op.bytesLess
    rw [← ltL_eq x y]
    have e1 : Nat.blt a.toNat b.toNat = decide (a < b) := by
      rw [Bool.eq_iff_iff]; simp [Nat.blt, Nat.ble_eq, UInt8.lt_iff_toNat_lt]; omega
    have e2 : Nat.beq a.toNat b.toNat = (a == b) := by
      rw [Bool.eq_iff_iff]; simp [Nat.beq_eq, ← UInt8.toNat_inj]
    rw [e1, e2]
    cases decide (a < b) <;> cases (a == b) <;> rfl

theorem VR.ptrA {a : Addr} {L : Loc} {o x : Nat} (hs : a.spot = none) (hl : μ a.block = some L) (hx : x = L.shift + o) :
    VR μ (.pointer (some ⟨a.block, o, a.spot⟩)) (.pointer (some ⟨L.blk, x, none⟩)) := by
  rw [hs, hx]; exact .ptr _ _ _ hl

/- one run each -/
def RunV (P : Program) (w : World) (s : Sem Value) (v : Value) : Prop := s.run P w = .ok v w

theorem pick_ok {c c' : Value} (hc : VR μ c c') {a b : Operand} {act : Act} {ρ : PM Value} (ht : TR μ ρ act.tmps) {r : Rs} (hv : pickV ρ h a b (some c) = some r) :
    ∃ v v', r = .value v h ∧ VR μ v v' ∧ ((do pure (.value (if ← asBool c' then act.eval a else act.eval b)) : Sem Next)).run P w = .ok (.value v') w := by
  unfold pickV at hv
  split at hv
  · rename_i e; cases e
    cases hc
    obtain ⟨v, h1, rfl⟩ := val_some hv
    exact ⟨v, _, rfl, eval_ok ht h1, by simp [asBool]⟩
  · rename_i e; cases e
    cases hc
    obtain ⟨v, h1, rfl⟩ := val_some hv
    exact ⟨v, _, rfl, eval_ok ht h1, by simp [asBool]⟩
  · cases hv

include ok in
theorem iface_ok {t : TypeId} {x x' : Value} (hx : VR μ x x') {r : Rs} (hv : ifaceV T h t (some x) = some r) :
    ∃ v v', r = .value v h ∧ VR μ v v' ∧ RunV P w (Instr.makeInterface t x') v' := by
  unfold ifaceV at hv
  simp only at hv
  cases hu : T.und t with
  | none => rw [hu] at hv; cases hv
  | some d =>
    rw [hu] at hv
    refine ⟨.iface t x, .iface t x', ?_, .iface _ _ _ hx, ?_⟩
    · cases d <;> simp_all
    · unfold RunV Instr.makeInterface
      rw [Sem.run_bind, run_und ok hu]
      cases d <;> first | rfl | (simp at hv)

theorem fieldPlace_run {f : Field} {n : Nat} (ok : TabOk P T) (hz : T.size f.type = some (n + 1)) (B x : Nat) (w : World) :
    (fieldPlace ⟨B, x, none⟩ f).run P w = .ok ⟨B, x + f.offset, none⟩ w := by
  simp only [fieldPlace, Sem.run_bind, run_size ok hz, Result.andThen_ok]
  rw [if_neg (by omega), Sem.run_pure, add_none]

include ok in
theorem fieldAddr_ok {s : TypeId} {f : Nat} {x x' : Value} (hx : VR μ x x') {r : Rs} (hv : fieldAddrV T h s f (some x) = some r) :
    ∃ v v', r = .value v h ∧ VR μ v v' ∧ RunV P w (Instr.fieldAt s x' f) v' := by
  unfold fieldAddrV at hv
  split at hv
  · rename_i a e; cases e
    obtain ⟨hs, L, hl, rfl⟩ := ptr_inv hx
    cases hu : T.und s with
    | none => rw [hu] at hv; cases hv
    | some d =>
      rw [hu] at hv
      cases d with
      | struct fs =>
        simp only at hv
        cases hf : fs.toList[f]? with
        | none => rw [hf] at hv; cases hv
        | some fd =>
          rw [hf] at hv
          simp only [fieldA] at hv
          cases hz : T.size fd.type with
          | none => rw [hz] at hv; cases hv
          | some n =>
            rw [hz] at hv
            cases n with
            | zero => cases hv
            | succ n =>
              simp only [frN_eq, Option.some.injEq] at hv
              subst hv
              refine ⟨_, _, rfl, VR.ptrA hs hl (Nat.add_assoc _ _ _), ?_⟩
              rw [Array.getElem?_toList] at hf
              simp only [RunV, Instr.fieldAt, Sem.run_bind, run_und ok hu, Result.andThen_ok, hf, Instr.sureAddr, Sem.run_pure, fieldPlace_run ok hz]
      | _ => simp only at hv; cases hv
  · cases hv

include ok in
theorem part_ok {t : TypeId} {cs cs' : List Value} {off : Nat} (hc : LR μ cs cs') {r : Rs} (hv : partV T h cs off t = some r) :
    ∃ v v', r = .value v h ∧ VR μ v v' ∧ RunV P w (part t cs'.toArray off) v' := by
  unfold partV at hv
  cases ha : T.agg t with
  | none => rw [ha] at hv; cases hv
  | some b =>
    rw [ha] at hv
    cases b with
    | true =>
      cases hz : T.size t with
      | none => rw [hz] at hv; cases hv
      | some n =>
        rw [hz] at hv
        simp only [Option.some.injEq] at hv
        subst hv
        refine ⟨_, .agg (cs'.toArray.extract off (off + n)), rfl, VR.agg_mk ?_, ?_⟩
        · have e : (cs'.toArray.extract off (off + n)).toList = (cs'.drop off).take n := by simp [List.extract]
          rw [e]
          exact (hc.drop off).take n
        · simp only [RunV, part, Sem.run_bind, run_isAgg ok ha, Result.andThen_ok, if_true, run_size ok hz, Sem.run_pure]
    | false =>
      simp only at hv
      obtain ⟨v, h1, rfl⟩ := val_some hv
      obtain ⟨v', h2, h3⟩ := hc.get h1
      refine ⟨v, v', rfl, h3, ?_⟩
      simp only [RunV, part, Sem.run_bind, run_isAgg ok ha, Result.andThen_ok, Bool.false_eq_true, if_false, List.getElem?_toArray, h2, Sem.run_pure]

include ok in
theorem field_ok {s : TypeId} {f : Nat} {x x' : Value} (hx : VR μ x x') {r : Rs} (hv : fieldV T h s f (some x) = some r) :
    ∃ v v', r = .value v h ∧ VR μ v v' ∧ RunV P w (Instr.field s x' f) v' := by
  unfold fieldV at hv
  split at hv
  · rename_i cs e; cases e
    obtain ⟨cs', rfl, hc⟩ := VR.agg_iff.1 hx
    cases hu : T.und s with
    | none => rw [hu] at hv; cases hv
    | some d =>
      rw [hu] at hv
      cases d with
      | struct fs =>
        simp only at hv
        cases hf : fs.toList[f]? with
        | none => rw [hf] at hv; cases hv
        | some fd =>
          rw [hf] at hv
          simp only [fieldP] at hv
          obtain ⟨v, v', h1, h2, h3⟩ := part_ok (w := w) ok hc hv
          rw [Array.toArray_toList] at h3
          refine ⟨v, v', h1, h2, ?_⟩
          rw [Array.getElem?_toList] at hf
          simp only [RunV] at h3
          simp only [RunV, Instr.field, Sem.run_bind, run_und ok hu, Result.andThen_ok, hf, asAgg, Sem.run_pure, h3]
      | _ => simp only at hv; cases hv
  · cases hv

theorem slice_inv {a : Addr} {n c : Nat} {x : Value} (hx : VR μ (.slice (some a) n c) x) (hn : 0 < c) :
    a.spot = none ∧ ∃ L c', μ a.block = some L ∧ n ≤ c ∧ c ≤ c' ∧ a.off + c' * L.esz ≤ L.ext ∧ x = .slice (some ⟨L.blk, L.shift + a.off, none⟩) n c' := by
  cases hx with
  | slice id o len cap cap' L hl hle hc hx => exact ⟨rfl, L, cap', hl, hle, hc, hx, rfl⟩
  | sliceEnd id o b => omega
theorem slice_some_inv {a : Addr} {n c : Nat} {x : Value} (hx : VR μ (.slice (some a) n c) x) : a.spot = none ∧ n ≤ c ∧ ∃ b c', x = .slice (some b) n c' ∧ c ≤ c' ∧ (c' = 0 → c = 0) := by
  cases hx with
  | slice id o len cap cap' L hl hle hc hx => exact ⟨rfl, hle, _, cap', rfl, hc, by omega⟩
  | sliceEnd id o b => exact ⟨rfl, Nat.le_refl _, b, 0, rfl, Nat.le_refl _, fun h => h⟩
theorem slice_none_inv {n c : Nat} {x : Value} (hx : VR μ (.slice none n c) x) : n = 0 ∧ c = 0 ∧ x = .slice none 0 0 := by
  cases hx; exact ⟨rfl, rfl, rfl⟩

include ok in
theorem indexAddr_ok {t : TypeId} {x y x' y' : Value} (hx : VR μ x x') (hy : VR μ y y') {r : Rs} (hv : indexAddrV T h t (some x) (some y) = some r) :
    ∃ v v', r = .value v h ∧ VR μ v v' ∧ RunV P w (Instr.indexAt t x' y') v' := by
  unfold indexAddrV at hv
  split at hv
  · rename_i a len cap k i e1 e2; cases e1; cases e2
    cases hy
    cases hu : T.und t with
    | none => rw [hu] at hv; cases hv
    | some d =>
      rw [hu] at hv
      cases d with
      | slice e =>
        simp only [idxAddr] at hv
        cases hb : Nat.blt i len with
        | false => rw [hb] at hv; cases hv
        | true =>
          cases hz : T.size e with
          | none => rw [hb, hz] at hv; cases hv
          | some n =>
            rw [hb, hz] at hv
            simp only [frN_eq, Option.some.injEq] at hv
            subst hv
            have hlt : i < len := Nat.le_of_ble_eq_true (show Nat.ble (i + 1) len = true from hb)
            obtain ⟨_, hle, _⟩ := slice_some_inv hx
            obtain ⟨hs, L, c', hl, _, hc, hex, rfl⟩ := slice_inv hx (by omega)
            refine ⟨_, _, rfl, VR.ptrA hs hl (Nat.add_assoc _ _ _), ?_⟩
            simp only [RunV, Instr.indexAt, Sem.run_bind, asIntOf, Sem.run_pure, Result.andThen_ok, run_und ok hu]
            rw [if_pos ⟨Int.natCast_nonneg _, Int.ofNat_lt.2 hlt⟩]
            simp only [Sem.run_bind, run_size ok hz, Result.andThen_ok, Sem.run_pure, Int.ofNat_eq_natCast, Int.toNat_natCast, add_none]
      | _ => simp only at hv; cases hv
  · rename_i a k i e1 e2; cases e1; cases e2
    cases hy
    obtain ⟨hs, L, hl, rfl⟩ := ptr_inv hx
    cases hu : T.und t with
    | none => rw [hu] at hv; cases hv
    | some d =>
      rw [hu] at hv
      cases d with
      | array len e =>
        simp only [idxAddr] at hv
        cases hb : Nat.blt i len with
        | false => rw [hb] at hv; cases hv
        | true =>
          cases hz : T.size e with
          | none => rw [hb, hz] at hv; cases hv
          | some n =>
            rw [hb, hz] at hv
            simp only [frN_eq, Option.some.injEq] at hv
            subst hv
            have hlt : i < len := Nat.le_of_ble_eq_true (show Nat.ble (i + 1) len = true from hb)
            refine ⟨_, _, rfl, VR.ptrA hs hl (Nat.add_assoc _ _ _), ?_⟩
            simp only [RunV, Instr.indexAt, Sem.run_bind, asIntOf, Sem.run_pure, Result.andThen_ok, run_und ok hu, Instr.sureAddr]
            rw [if_pos ⟨Int.natCast_nonneg _, Int.ofNat_lt.2 hlt⟩]
            simp only [Sem.run_bind, run_size ok hz, Result.andThen_ok, Sem.run_pure, Int.ofNat_eq_natCast, Int.toNat_natCast, add_none]
      | _ => simp only at hv; cases hv
  · cases hv

theorem bytes_get (s : ByteArray) (i : Nat) : s[i]? = (txt s)[i]? := by
  unfold txt
  rw [Array.getElem?_toList]
  rcases Nat.lt_or_ge i s.size with x | x
  · rw [getElem?_pos s i x, Array.getElem?_eq_getElem (by simpa using x)]; rfl
  · rw [getElem?_neg s i (by omega), Array.getElem?_eq_none (by simpa using x)]

include ok in
theorem index_ok {t : TypeId} {x y x' y' : Value} (hx : VR μ x x') (hy : VR μ y y') {r : Rs} (hv : indexV T h t (some x) (some y) = some r) :
    ∃ v v', r = .value v h ∧ VR μ v v' ∧ RunV P w (Instr.index t x' y') v' := by
  unfold indexV at hv
  split at hv
  · rename_i s k i e1 e2; cases e1; cases e2
    cases hy; cases hx
    cases hu : T.und t with
    | none => rw [hu] at hv; cases hv
    | some d =>
      rw [hu] at hv
      cases d with
      | string =>
        simp only [byteV] at hv
        cases hg : (txt s)[i]? with
        | none => rw [hg] at hv; cases hv
        | some b =>
          rw [hg] at hv
          have := int_some hv
          subst this
          refine ⟨_, _, rfl, .int _ _, ?_⟩
          simp only [RunV, Instr.index, Sem.run_bind, asIntOf, Sem.run_pure, Result.andThen_ok, run_und ok hu, Int.ofNat_eq_natCast]
          rw [if_pos (Int.natCast_nonneg _), Int.toNat_natCast, bytes_get, hg]
          rfl
      | _ => simp only at hv; cases hv
  · rename_i cs k i e1 e2; cases e1; cases e2
    cases hy
    obtain ⟨cs', rfl, hc⟩ := VR.agg_iff.1 hx
    cases hu : T.und t with
    | none => rw [hu] at hv; cases hv
    | some d =>
      rw [hu] at hv
      cases d with
      | array len e =>
        simp only [idxPart] at hv
        cases hb : Nat.blt i len with
        | false => rw [hb] at hv; cases hv
        | true =>
          cases hz : T.size e with
          | none => rw [hb, hz] at hv; cases hv
          | some n =>
            rw [hb, hz] at hv
            simp only at hv
            have hlt : i < len := Nat.le_of_ble_eq_true (show Nat.ble (i + 1) len = true from hb)
            obtain ⟨v, v', h1, h2, h3⟩ := part_ok (w := w) ok hc hv
            rw [Array.toArray_toList] at h3
            refine ⟨v, v', h1, h2, ?_⟩
            simp only [RunV] at h3
            simp only [RunV, Instr.index, Sem.run_bind, asIntOf, Sem.run_pure, Result.andThen_ok, run_und ok hu]
            rw [if_pos ⟨Int.natCast_nonneg _, Int.ofNat_lt.2 hlt⟩]
            simp only [Sem.run_bind, run_size ok hz, Result.andThen_ok, Int.ofNat_eq_natCast, Int.toNat_natCast, h3]
      | _ => simp only at hv; cases hv
  · cases hv

theorem extract_ok {i : Nat} {x x' : Value} (hx : VR μ x x') {r : Rs} (hv : extractV h i (some x) = some r) :
    ∃ v v', r = .value v h ∧ VR μ v v' ∧ RunV P w (Instr.extract x' i) v' := by
  unfold extractV at hv
  split at hv
  · rename_i vs e; cases e
    obtain ⟨cs', rfl, hc⟩ := VR.tuple_iff.1 hx
    obtain ⟨v, h1, rfl⟩ := val_some hv
    obtain ⟨v', h2, h3⟩ := hc.get h1
    refine ⟨v, v', rfl, h3, ?_⟩
    rw [Array.getElem?_toList] at h2
    simp [RunV, Instr.extract, h2]
  · cases hv

theorem found_ok {v v' : Value} (hv : VR μ v v') (ok b : Bool) : VR μ (found ok v b) (if ok then .tuple #[v', .bool b] else v') := by
  cases ok with
  | true => exact VR.tuple_mk (.cons hv (.cons (.bool b) .nil))
  | false => exact hv

include ok in
theorem zeroPair_ok {t : TypeId} {r : Rs} (hv : zeroPair T h t = some r) :
    ∃ v z, r = .value v h ∧ VR μ v (.tuple #[z, .bool false]) ∧ (zeroValue t).run P w = .ok z w := by
  unfold zeroPair at hv
  cases hz : T.zero t with
  | none => rw [hz] at hv; cases hv
  | some z =>
    rw [hz] at hv
    cases hv
    obtain ⟨_, _, _, hc⟩ := ok.zero hz
    exact ⟨_, z, rfl, found_ok (.of_closed hc) true false, run_zero ok hz w⟩

include ok in
theorem assert_ok {t xt : TypeId} {cok : Bool} {x x' : Value} (hx : VR μ x x') {r : Rs} (hv : assertV T h t cok (some x) = some r) :
    ∃ v v', r = .value v h ∧ VR μ v v' ∧ RunV P w (Instr.typeAssert x' xt t cok) v' := by
  have hund : ∀ {o : Option TypeDesc}, isIfaceD o = false → ∃ d, o = some d ∧ ∀ ms, d ≠ .interface ms := by
    intro o ho
    cases o with
    | none => cases ho
    | some d => exact ⟨d, rfl, fun ms e => by subst e; cases ho⟩
  unfold assertV at hv
  split at hv
  · rename_i e; cases e
    cases hx
    split at hv
    · rename_i hi
      obtain ⟨d, hd, hne⟩ := hund hi
      obtain ⟨v, z, h1, h2, h3⟩ := zeroPair_ok (w := w) ok hv
      refine ⟨v, _, h1, h2, ?_⟩
      unfold RunV Instr.typeAssert
      simp only [Sem.run_bind, run_und ok hd, Result.andThen_ok, if_true]
      cases d <;> first | exact absurd rfl (hne _) | simp [h3]
    · cases hv
  · rename_i t' v e; cases e
    cases hx
    rename_i v' hvv
    split at hv
    · rename_i hi
      obtain ⟨d, hd, hne⟩ := hund hi
      cases hb : Nat.beq t' t with
      | true =>
        rw [hb] at hv
        cases hv
        have : t' = t := Nat.eq_of_beq_eq_true hb
        subst this
        refine ⟨_, _, rfl, found_ok hvv true true, ?_⟩
        unfold RunV Instr.typeAssert
        simp only [Sem.run_bind, run_und ok hd, Result.andThen_ok, if_true]
        cases d <;> first | exact absurd rfl (hne _) | simp
      | false =>
        rw [hb] at hv
        have hne2 : t' ≠ t := fun e => by subst e; simp at hb
        obtain ⟨v, z, h1, h2, h3⟩ := zeroPair_ok (w := w) ok hv
        refine ⟨v, _, h1, h2, ?_⟩
        unfold RunV Instr.typeAssert
        simp only [Sem.run_bind, run_und ok hd, Result.andThen_ok, if_true]
        cases d <;> first | exact absurd rfl (hne _) | simp [h3, hne2]
    · cases hv
  · cases hv

end
end Go.AE

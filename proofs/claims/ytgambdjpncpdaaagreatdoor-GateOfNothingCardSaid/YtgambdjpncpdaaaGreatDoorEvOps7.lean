/- What the evaluator computes of one operation, the model computes: conversions, append, copy. -/
import Derived.Test.YtgambdjpncpdaaaGreatDoorEvOps6
namespace Go.AE

section
variable {P : Program} {T : Tab} (ok : TabOk P T) {μ : Mu} {h : Mem} {w : World} (hr : HR P μ h w)

theorem bytesL_length : ∀ l : List UInt8, (bytesL l).length = l.length
  | [] => rfl
  | _ :: l => by simp [bytesL, bytesL_length l]
theorem bytesL_map : ∀ l : List UInt8, bytesL l = l.map fun b => Value.int .u8 (b.toNat : Int)
  | [] => rfl
  | _ :: l => by simp [bytesL, bytesL_map l]
theorem bytesL_self (l : List UInt8) : LR μ (bytesL l) (bytesL l) := by
  refine ⟨rfl, fun i v v' hv hv' => ?_⟩
  rw [hv] at hv'; cases hv'
  rw [bytesL_map, List.getElem?_map] at hv
  cases hl : l[i]? with
  | none => rw [hl] at hv; cases hv
  | some b => rw [hl] at hv; cases hv; exact .int _ _
theorem bytesOf_ints : ∀ {l : List Value} {s : List UInt8}, bytesOf l = some s → ∃ ns : List Nat, l = ns.map (fun (n : Nat) => Value.int .u8 (n : Int)) ∧ s = ns.map UInt8.ofNat
  | [], s, hs => by cases hs; exact ⟨[], rfl, rfl⟩
  | v :: l, s, hs => by
    unfold bytesOf at hs
    split at hs
    · rename_i heq; cases heq
    · rename_i n l' heq
      cases heq
      cases hb : bytesOf l with
      | none => rw [hb] at hs; cases hs
      | some r =>
        rw [hb] at hs
        cases hs
        obtain ⟨ns, h1, h2⟩ := bytesOf_ints hb
        exact ⟨n :: ns, by simp [h1], by simp [h2]⟩
    · cases hs

include hr in
theorem rowOf_ok {a : Addr} {e n size c : Nat} {l : List Value} {x' : Value} (hx : VR μ (.slice (some a) n c) x') (hv : rowOf h e n size a = some l) :
    ∃ b c' l', x' = .slice (some b) n c' ∧ LR μ l l' ∧ l.length = n * size ∧ ∀ j v, l'[j]? = some v → w.cell? (b.add j) = some v := by
  unfold rowOf at hv
  cases n with
  | zero =>
    simp only [Option.some.injEq] at hv
    subst hv
    obtain ⟨_, _, b, c', rfl, _⟩ := slice_some_inv hx
    exact ⟨b, c', [], rfl, .nil, by simp, fun j v hv => by simp at hv⟩
  | succ n =>
    simp only at hv
    split at hv
    · rename_i hs ety sz cs hs2 hg
      obtain ⟨_, hle, _⟩ := slice_some_inv hx
      obtain ⟨_, L, c', hl, _, _, _, rfl⟩ := slice_inv hx (by omega)
      obtain ⟨L', hl', ho⟩ := hr.dom _ _ hg
      rw [hl] at hl'; cases hl'
      obtain ⟨l', h1, h2⟩ := row_of ho hv
      exact ⟨_, c', l', rfl, h1, (PM.row_spec _ _ _ _ hv).1, h2⟩
    · cases hv

include hr in
/-- The elements of what is appended or copied. -/
theorem elems_ok {e size n : Nat} {l : List Value} {x x' : Value} (hx : VR μ x x') (hv : elems h e size x = some (n, l)) :
    ∃ l', LR μ l l' ∧ l.length = n * size ∧ (Builtin.lenOf x').run P w = .ok n w ∧
      ∀ k, k ≤ n → ∀ w', w'.heap = w.heap → (Builtin.firstCells size k x').run P w' = .ok (l'.take (k * size)).toArray w' := by
  unfold elems at hv
  split at hv
  · obtain ⟨rfl, rfl, rfl⟩ := slice_none_inv hx
    cases hv
    exact ⟨[], .nil, by simp, rfl, fun k hk w' hw => by simp [Builtin.firstCells]⟩
  · rename_i a m c
    cases hro : rowOf h e m size a with
    | none => rw [hro] at hv; cases hv
    | some l2 =>
      rw [hro] at hv
      cases hv
      obtain ⟨b, c', l', rfl, h1, h2, h3⟩ := rowOf_ok (w := w) hr hx hro
      refine ⟨l', h1, h2, rfl, fun k hk w' hw => ?_⟩
      have hlen : (l'.take (k * size)).length = k * size := by
        rw [List.length_take, ← h1.1, h2]
        exact Nat.min_eq_left (Nat.mul_le_mul_right _ hk)
      have := run_loadCells_list (P := P) w' b (l'.take (k * size)) (fun j v hj => by
        rw [List.getElem?_take] at hj
        split at hj
        · have := h3 j v hj
          simpa [World.cell?, hw] using this
        · cases hj)
      rw [hlen] at this
      exact this
  · rename_i s
    cases hx
    cases hb : Nat.beq size 1 with
    | false => rw [hb] at hv; cases hv
    | true =>
      rw [hb] at hv
      cases hv
      have hb := Nat.eq_of_beq_eq_true hb
      subst hb
      refine ⟨_, bytesL_self _, by rw [bytesL_length]; omega, by rw [txt_size]; rfl, fun k hk w' hw => ?_⟩
      simp only [Builtin.firstCells, Sem.run_pure, Nat.mul_one]
      congr 1
      apply Array.ext'
      rw [Array.toList_map, Lib.extract_data, bytesL_map, List.map_take]
      simp [txt]
  · cases hv

theorem elems_flat {l l' : List Value} (hl : LR μ l l') (hf : allFlat l = true) : ∀ v ∈ l', v.oneCell' = true := by
  intro v hv
  obtain ⟨i, hi, rfl⟩ := List.mem_iff_getElem.1 hv
  have hi2 : i < l.length := by have := hl.1; omega
  exact (hl.2 i l[i] _ (List.getElem?_eq_getElem hi2) (List.getElem?_eq_getElem hi)).flat (allFlat_get hf (List.getElem_mem hi2))

/- how much an array may grow -/
theorem growBy_le (n : Nat) (hn : 256 ≤ n) : ∀ (r c : Nat), 256 ≤ c → c ≤ 2 * n → Builtin.growBy n r c ≤ 2 * n
  | 0, c, _, hc => hc
  | r + 1, c, h1, hc => by
    unfold Builtin.growBy
    split
    · exact hc
    · exact growBy_le n hn r _ (by omega) (by omega)
theorem next_le {n c : Nat} (hc : c < n) : Builtin.nextslicecap n c ≤ 2 * n := by
  unfold Builtin.nextslicecap
  split
  · omega
  · split
    · omega
    · exact growBy_le n (by omega) 4 c (by omega) (by omega)

include ok in
/-- append, where there is room. -/
theorem append_room {t t2 ty e : TypeId} {i : TI} {d2 : TypeDesc} (hu : T.und t = some (.slice e)) (hi : T.types.get e = some i) (hu2 : T.und t2 = some d2) (hd2 : isIntD (some d2) = false)
    {base : Option Addr} {sLen sCap m : Nat} {x' : Value} {new : List Value} (hlen : (Builtin.lenOf x').run P w = .ok m w) (hnew : (Builtin.firstCells i.size m x').run P w = .ok new.toArray w)
    (hroom : sLen + m ≤ sCap) {w' : World} (hst : ∀ a, base = some a → (storeCells (a.add (sLen * i.size)) new).run P w = .ok () w') (hno : base = none → w' = w) :
    (Builtin.append_ #[t, t2] ty #[.slice base sLen sCap, x']).run P w = .ok (.slice base (sLen + m) sCap) w' := by
  have hsz : T.size e = some i.size := by simp [Tab.size, hi]
  unfold Builtin.append_
  simp only [List.getElem?_toArray, List.getElem?_cons_zero, List.getElem?_cons_succ, Sem.run_bind, run_und ok hu, Result.andThen_ok, run_size ok hsz, run_und ok hu2, Sem.run_pure]
  cases d2
  case int => cases hd2
  all_goals
    simp only [Bool.false_eq_true, if_false, Bool.not_false, if_true, Sem.run_bind, hlen, Result.andThen_ok]
    rw [if_pos hroom]
    simp only [Sem.run_bind, hnew, Result.andThen_ok]
    cases base with
    | none => simp [hno rfl]
    | some a => simp [hst a rfl]

include ok in
/-- append, where there is none. -/
theorem append_grow {t t2 ty e : TypeId} {i : TI} {d2 : TypeDesc} {z : Value} (hu : T.und t = some (.slice e)) (hi : T.types.get e = some i) (hz0 : i.zero = some z) (hu2 : T.und t2 = some d2) (hd2 : isIntD (some d2) = false)
    {base : Option Addr} {sLen sCap m : Nat} {x' : Value} {old new : List Value} (hlen : (Builtin.lenOf x').run P w = .ok m w)
    (hnew : ∀ w', w'.heap = w.heap → (Builtin.firstCells i.size m x').run P w' = .ok new.toArray w')
    (hold : ∀ w', w'.heap = w.heap → (Builtin.firstCells i.size sLen (.slice base sLen sCap)).run P w' = .ok old.toArray w')
    (hroom : ¬ sLen + m ≤ sCap) (hb : (sLen + m) * i.bytes ≤ 1099511627776) (hb1 : 1 ≤ i.bytes) :
    ∃ cap, sLen + m ≤ cap ∧ (Builtin.append_ #[t, t2] ty #[.slice base sLen sCap, x']).run P w =
      .ok (.slice (some ⟨w.heap.size, 0, none⟩) (sLen + m) cap)
        { w with drawn := w.drawn + 1, heap := w.heap.push (.cells (old.toArray ++ new.toArray ++ Builtin.zeroCells z.cells (cap - (sLen + m))) e) } := by
  have hsz : T.size e = some i.size := by simp [Tab.size, hi]
  have hzT : T.zero e = some z := by simp [Tab.zero, hi, hz0]
  obtain ⟨info, hinfo, hie⟩ := ok.info hi
  have ebytes : info.bytes = i.bytes := by rw [hie]; rfl
  have hty : (typeInfo e).run P w = .ok info w := by simp [typeInfo, hinfo]
  have hsmall : sLen + m ≤ 1099511627776 := Nat.le_trans (Nat.le_mul_of_pos_right _ hb1) hb
  have hnext : ¬ (Builtin.nextslicecap (sLen + m) sCap * i.bytes > 2 ^ 48) := by
    have h1 := next_le (n := sLen + m) (c := sCap) (by omega)
    have h2 : Builtin.nextslicecap (sLen + m) sCap * i.bytes ≤ 2 * (sLen + m) * i.bytes := Nat.mul_le_mul_right _ h1
    rw [Nat.mul_assoc] at h2
    omega
  refine ⟨(Question.appendCap (sLen + m) sCap e).cut (w.tape w.drawn (.appendCap (sLen + m) sCap e)), by simp [Question.cut], ?_⟩
  have hmax : ¬ (((sLen + m : Nat) : Int) > IntKind.i64.max) := by
    have e2 : IntKind.i64.max = 9223372036854775807 := by decide
    rw [e2]; omega
  have hty2 : (typeInfo e).run P { w with drawn := w.drawn + 1 } = .ok info { w with drawn := w.drawn + 1 } := by simp [typeInfo, hinfo]
  have h3 := hold { w with drawn := w.drawn + 1 } rfl
  have h4 := hnew { w with drawn := w.drawn + 1 } rfl
  have h5 := run_zero ok hzT { w with drawn := w.drawn + 1 }
  unfold Builtin.append_
  simp only [List.getElem?_toArray, List.getElem?_cons_zero, List.getElem?_cons_succ, Sem.run_bind, run_und ok hu, Result.andThen_ok, run_size ok hsz, run_und ok hu2, Sem.run_pure]
  cases d2
  case int => cases hd2
  all_goals
    simp only [Bool.false_eq_true, if_false, Bool.not_false, if_true, Sem.run_bind, hlen, Result.andThen_ok]
    rw [if_neg hroom]
    simp only [Sem.run_bind, hty, Result.andThen_ok, ebytes, hmax, false_and, if_false]
    rw [if_neg hnext]
    simp only [Sem.run_bind, run_choose, Question.forced, Bool.false_eq_true, if_false, Result.andThen_ok, run_askRoom, hty2, h3, h4, h5, Go.newRow, run_newObj, Sem.run_pure]

theorem zOk_some {i : TI} (hz : zOk i = true) : ∃ z, i.zero = some z ∧ (cellsL z).length = i.size := by
  unfold zOk at hz
  cases hi : i.zero with
  | none => rw [hi] at hz; cases hz
  | some z => rw [hi] at hz; exact ⟨z, rfl, Nat.eq_of_beq_eq_true hz⟩

theorem isIntD_false {o : Option TypeDesc} (ho : isIntD o = false) : ∃ d, o = some d ∧ isIntD (some d) = false := by
  cases o with
  | none => cases ho
  | some d => exact ⟨d, rfl, ho⟩

theorem LR.full {μ : Mu} {l l' : List Value} {n size : Nat} (hl : LR μ l l') (hn : l.length = n * size) : l'.take (n * size) = l' := List.take_of_length_le (by rw [← hl.1, hn]; exact Nat.le_refl _)

theorem inPlace_some {base : Option Addr} {n m cap size : Nat} {new : List Value} {r : Rs} (hv : inPlace h base n (m + 1) cap size new = some r) :
    ∃ a h', base = some a ∧ storeRow h (addA a (n * size)) new = some h' ∧ r = .value (.slice (some a) (n + (m + 1)) cap) h' := by
  cases base with
  | none => simp [inPlace] at hv
  | some a =>
    simp only [inPlace, frN_eq] at hv
    split at hv
    · rename_i h' hs
      cases hv
      exact ⟨a, h', rfl, hs, rfl⟩
    · cases hv

theorem mkSlice_some {e : TypeId} {size len cap : Nat} {c : PM Value} {r : Rs} (hv : mkSlice h e size len cap c = some r) :
    r = .value (.slice (some ⟨h.next, 0, none⟩) len cap) (h.alloc (.cells e (cap * size) c)) := by
  simp only [mkSlice, frN_eq, Option.some.injEq] at hv
  exact hv.symm

theorem forget_next (base : Option Addr) : (forget h base).next = h.next := by
  cases base with
  | none => rfl
  | some a => show (h.del a.block).next = _; rw [mdel_eq]

include ok in
theorem noMap_ok {e : TypeId} {i : TI} (hi : T.types.get e = some i) (hn : notMapO i.und = true) : ∀ k v, P.underlying e ≠ some (.map k v) := by
  intro k v h
  cases hd : i.und with
  | none => rw [hd] at hn; cases hn
  | some d =>
    have hu : T.und e = some d := by unfold Tab.und; rw [hi]; exact hd
    have := ok.und hu
    rw [h] at this
    cases this
    rw [hd] at hn
    cases hn

include ok hr in
theorem append_ok {t t2 ty : TypeId} {s x s' x' : Value} (hs : VR μ s s') (hx : VR μ x x') {r : Rs} (hv : appendV T h t t2 s x = some r) (hnew : NewIn μ h.next (nextOf h r)) :
    ∃ μ' h' v v' w', r = .value v h' ∧ Post P μ h w μ' h' w' ∧ VR μ' v v' ∧ (Builtin.append_ #[t, t2] ty #[s', x']).run P w = .ok v' w' := by
  unfold appendV at hv
  cases hint : isIntD (T.und t2) with
  | true => rw [hint] at hv; cases hv
  | false =>
  rw [hint] at hv
  obtain ⟨d2, hu2, hd2⟩ := isIntD_false hint
  simp only at hv
  unfold appendD at hv
  cases hu : T.und t with
  | none => rw [hu] at hv; cases hv
  | some d =>
  rw [hu] at hv
  cases d with
  | slice e =>
    simp only at hv
    split at hv
    · rename_i i base sLen cap hi
      cases hzo : (zOk i && notMapO i.und) with
      | false => rw [hzo] at hv; cases hv
      | true =>
      rw [hzo] at hv
      simp only at hv
      obtain ⟨hzo, hnm⟩ : zOk i = true ∧ notMapO i.und = true := by simpa using hzo
      have hnomap := noMap_ok ok hi hnm
      obtain ⟨z, hz0, hzlen⟩ := zOk_some hzo
      have hsz : T.size e = some i.size := by simp [Tab.size, hi]
      have hzT : T.zero e = some z := by simp [Tab.zero, hi, hz0]
      cases he1 : elems h e i.size (.slice base sLen cap) with
      | none => rw [he1] at hv; cases hv
      | some p1 =>
      cases he2 : elems h e i.size x with
      | none => rw [he1, he2] at hv; obtain ⟨_, _⟩ := p1; cases hv
      | some p2 =>
      obtain ⟨n, old⟩ := p1
      obtain ⟨m, new⟩ := p2
      rw [he1, he2] at hv
      obtain ⟨old', ho1, ho2, ho3, ho4⟩ := elems_ok (w := w) hr hs he1
      obtain ⟨new', hn1, hn2, hn3, hn4⟩ := elems_ok (w := w) hr hx he2
      -- the shape of the first argument
      have hshape : ∃ base' cap', s' = .slice base' sLen cap' ∧ cap ≤ cap' ∧ sLen ≤ cap ∧ n = sLen ∧ (base = none ↔ base' = none) := by
        cases base with
        | none =>
          obtain ⟨h1, h2, rfl⟩ := slice_none_inv hs
          have : n = 0 := by have h3 := ho3; simp [Builtin.lenOf] at h3; omega
          exact ⟨none, 0, by rw [h1], by omega, by omega, by omega, by simp⟩
        | some a =>
          obtain ⟨_, hle, b, c', rfl, hc, _⟩ := slice_some_inv hs
          have : n = sLen := by have h3 := ho3; simp [Builtin.lenOf] at h3; omega
          exact ⟨some b, c', rfl, hc, hle, this, by simp⟩
      obtain ⟨base', cap', rfl, hcc, hlc, rfl, hbn⟩ := hshape
      unfold appendL at hv
      simp only at hv
      have hnewall : ∀ w', w'.heap = w.heap → (Builtin.firstCells i.size m x').run P w' = .ok new'.toArray w' := by
        intro w' hw
        have := hn4 m (Nat.le_refl _) w' hw
        rwa [LR.full hn1 hn2] at this
      have holdall : ∀ w', w'.heap = w.heap → (Builtin.firstCells i.size n (.slice base' n cap')).run P w' = .ok old'.toArray w' := by
        intro w' hw
        have := ho4 n (Nat.le_refl _) w' hw
        rwa [LR.full ho1 ho2] at this
      cases m with
      | zero =>
        simp only [Option.some.injEq] at hv
        subst hv
        have hn0 : new' = [] := List.eq_nil_of_length_eq_zero (by rw [← hn1.1, hn2]; simp)
        subst hn0
        refine ⟨μ, h, _, _, w, rfl, .refl hr, hs, ?_⟩
        exact append_room ok hu hi hu2 hd2 hn3 (hnewall w rfl) (by omega) (fun a _ => by simp [storeCells]) (fun _ => rfl)
      | succ m =>
      simp only at hv
      cases hbo : baseOk h e base with
      | false => rw [hbo] at hv; cases hv
      | true =>
      rw [hbo] at hv
      simp only at hv
      unfold appendGo at hv
      cases hfit : Nat.ble (n + (m + 1)) cap with
      | true =>
        rw [hfit] at hv
        have hfit := Nat.le_of_ble_eq_true hfit
        obtain ⟨a, h', rfl, hst, rfl⟩ := inPlace_some hv
        obtain ⟨hsp, L, c', hl, _, hc2, hex, heq⟩ := slice_inv hs (by omega)
        cases heq
        obtain ⟨w', hrun, hp⟩ := storeRow_ok (w := w) hr hst (show μ (addA a (n * i.size)).block = some L from hl) hn1
        refine ⟨μ, h', _, .slice (some ⟨L.blk, L.shift + a.off, none⟩) (n + (m + 1)) cap', w', rfl, hp, ?_, ?_⟩
        · obtain ⟨ab, ao, as⟩ := a
          simp only at hsp hl hex
          subst hsp
          exact .slice _ _ _ _ _ L hl hfit hc2 hex
        · refine append_room ok hu hi hu2 hd2 hn3 (hnewall w rfl) (by omega) (fun b hb => ?_) (fun hb => by cases hb)
          cases hb
          rw [add_none, Nat.add_assoc]
          exact hrun
      | false =>
        rw [hfit] at hv
        simp only at hv
        have hnfit : ¬ n + (m + 1) ≤ cap := fun hle => by rw [Nat.ble_eq_true_of_le hle] at hfit; cases hfit
        cases hcond : (Nat.ble ((n + (m + 1)) * i.bytes) 1099511627776 && Nat.ble 1 i.bytes && allFlat new && allFlat old) with
        | false => rw [hcond] at hv; cases hv
        | true =>
        rw [hcond] at hv
        simp only [frN_eq] at hv
        simp only [Bool.and_eq_true] at hcond
        have hb1 := Nat.le_of_ble_eq_true hcond.1.1.1
        have hb2 := Nat.le_of_ble_eq_true hcond.1.1.2
        have hfn := hcond.1.2
        have hfo := hcond.2
        have hreq := mkSlice_some hv
        subst hreq
        rw [forget_next]
        have hfresh : μ h.next = none := hnew _ (Nat.le_refl _) (by simp only [nextOf, alloc_eq, forget_next]; omega)
        have hlen : (old ++ new).length = (n + (m + 1)) * i.size := by rw [List.length_append, ho2, hn2, ← Nat.add_mul]
        have happ := ho1.append hn1
        by_cases hroom : n + (m + 1) ≤ cap'
        · -- there was room after all
          cases base with
          | none => obtain ⟨_, _, heq⟩ := slice_none_inv hs; cases heq; omega
          | some a =>
          have hsl := hs
          cases hs with
          | sliceEnd => omega
          | slice id o _ _ _ L hl _ _ hex =>
          have hes := baseOk_size ok hr hbo hl hsz
          -- the block
          have hblk : ∃ ety sz c, h.bs.get id = some (.cells ety sz c) := by
            unfold baseOk etyIs at hbo
            simp only at hbo
            cases hrow : rowAt h ⟨id, o, none⟩ with
            | none => rw [hrow] at hbo; cases hbo
            | some p =>
              unfold rowAt at hrow
              split at hrow
              · rename_i hg; exact ⟨_, _, _, hg⟩
              · cases hrow
          obtain ⟨ety, sz, c, hg⟩ := hblk
          obtain ⟨L2, hl2, hor⟩ := hr.dom _ _ hg
          rw [hl] at hl2; cases hl2
          obtain ⟨h0, h1, h2, cs, el, fr, h3, h4, h5, h6⟩ := hor
          have hle1 : n * i.size + new'.length ≤ cap' * i.size := by
            rw [← hn1.1, hn2, ← Nat.add_mul]; exact Nat.mul_le_mul_right _ hroom
          rw [← hes] at hex
          obtain ⟨w', cs', hrun, g2, g3, g4, g5, g6, g7, g8, g9⟩ := run_storeCells (P := P) new' (L.shift + (o + n * i.size)) 0 cs w h3 (by omega) (elems_flat hn1 hfn)
            (fun j hj => by have := h5 (o + n * i.size + j) (by omega); rwa [show L.shift + (o + n * i.size) + 0 + j = L.shift + (o + n * i.size + j) by omega])
          let L' : Loc := ⟨L.blk, L.shift + o, L.ext - o, i.size, .empty, []⟩
          have hold : ∀ j v, old'[j]? = some v → cs[L.shift + o + j]? = some v := by
            intro j v hj
            have he1' : ∃ b c2 l2, Value.slice (some ⟨L.blk, L.shift + o, none⟩) n cap' = .slice (some b) n c2 ∧ LR μ old l2 ∧ old.length = n * i.size ∧ ∀ j v, l2[j]? = some v → w.cell? (b.add j) = some v := by
              unfold elems at he1
              simp only at he1
              cases hro : rowOf h e n i.size ⟨id, o, none⟩ with
              | none => rw [hro] at he1; cases he1
              | some l3 => rw [hro] at he1; cases he1; exact rowOf_ok (w := w) hr hsl hro
            obtain ⟨b, c2, l2, heq, k1, k2, k3⟩ := he1'
            cases heq
            -- both lists are what firstCells reads
            have hf := ho4 n (Nat.le_refl _) w rfl
            have hf2 := run_loadCells_list (P := P) w _ l2 k3
            rw [← k1.1, k2] at hf2
            simp only [Builtin.firstCells] at hf
            rw [hf2] at hf
            have heq2 : l2 = old' := by
              have hf3 := hf
              rw [LR.full ho1 ho2] at hf3
              simpa using hf3
            subst heq2
            have := k3 j v hj
            rw [add_none, cell_at _ h3] at this
            exact this
          refine ⟨μ.add h.next L', _, _, .slice (some ⟨L.blk, L.shift + o, none⟩) (n + (m + 1)) cap', w', rfl,
            Post.replace hr hg hl (L' := L') rfl hfresh g6 g5 g7 g8 g9 ⟨.inr hnomap, ok.tsize hsz, ?_, cs', el, fr, g2, ?_, fun j hj => ?_, fun j v hj => ?_⟩, ?_, ?_⟩
          · show (n + (m + 1)) * i.size ≤ L.ext - o
            have := Nat.mul_le_mul_right i.size hroom
            omega
          · show L.shift + o + (L.ext - o) ≤ cs'.size
            omega
          · have := h5 (o + j) (by have : j < L.ext - o := hj; omega)
            show ¬ (fr.1 ≤ L.shift + o + j ∧ L.shift + o + j < fr.2)
            rwa [Nat.add_assoc]
          · rw [PM.ofList_get] at hj
            have hjl : j < (n + (m + 1)) * i.size := by
              rcases Nat.lt_or_ge j ((n + (m + 1)) * i.size) with y | y
              · exact y
              · rw [List.getElem?_eq_none (by omega)] at hj; cases hj
            refine ⟨hjl, ?_⟩
            obtain ⟨v', k1, k2⟩ := happ.get hj
            refine ⟨v', ?_, k2.mono (Mu.add_ext L' hfresh)⟩
            show cs'[L.shift + o + j]? = some v'
            rw [g4]
            have hol : old'.length = n * i.size := by rw [← ho1.1, ho2]
            have hnl : new'.length = (m + 1) * i.size := by rw [← hn1.1, hn2]
            rw [Nat.add_mul] at hjl
            by_cases hj2 : j < n * i.size
            · rw [if_neg (by omega)]
              rw [List.getElem?_append_left (by omega)] at k1
              exact hold j v' k1
            · rw [if_pos (by omega)]
              rw [List.getElem?_append_right (by omega)] at k1
              rw [show L.shift + o + j - (L.shift + (o + n * i.size) + 0) = j - old'.length by omega]
              exact k1
          · have := VR.slice (μ := μ.add h.next L') h.next 0 (n + (m + 1)) (n + (m + 1)) cap' L' (Mu.add_same _ _) (Nat.le_refl _) hroom (by show 0 + cap' * i.size ≤ L.ext - o; omega)
            simpa [L'] using this
          · refine append_room ok hu hi hu2 hd2 hn3 (hnewall w rfl) hroom (fun b hb => ?_) (fun hb => by cases hb)
            cases hb
            rw [add_none, Nat.add_assoc]
            exact hrun
        · -- a new array
          obtain ⟨c2, hc2, hrun⟩ := append_grow (w := w) (ty := ty) (base := base') ok hu hi hz0 hu2 hd2 hn3 hnewall holdall hroom hb1 hb2
          obtain ⟨_, _, _, hclosed⟩ := ok.zero hzT
          have hzs : z.cells.size = i.size := by have := (VR.of_closed (μ := μ) hclosed).cells.1; simp at this; omega
          have hp1 : Post P μ h w μ (forget h base) w := by
            cases base with
            | none => exact .refl hr
            | some a => exact Post.del hr _
          have hp2 := Post.drawn hp1.rel (w.drawn + 1)
          let L : Loc := ⟨w.heap.size, 0, c2 * i.size, i.size, .empty, []⟩
          have hfresh2 : μ (forget h base).next = none := by rw [forget_next]; exact hfresh
          have htot : (old'.toArray ++ new'.toArray ++ Builtin.zeroCells z.cells (c2 - (n + (m + 1)))).size = c2 * i.size := by
            have e3 : n * i.size + (m + 1) * i.size + (c2 - (n + (m + 1))) * i.size = c2 * i.size := by
              rw [← Nat.add_mul, ← Nat.add_mul]; congr 1; omega
            simp only [Array.size_append, List.size_toArray, Builtin.zeroCells, Array.size_map, Array.size_range, hzs, ← ho1.1, ← hn1.1, ho2, hn2]
            exact e3
          have hp3 := Post.alloc (w := { w with drawn := w.drawn + 1 }) hp2.rel hfresh2 L (.cells e ((n + (m + 1)) * i.size) (PM.ofList (old ++ new)))
            (.cells (old'.toArray ++ new'.toArray ++ Builtin.zeroCells z.cells (c2 - (n + (m + 1)))) e) rfl
            ⟨.inl rfl, ok.tsize hsz, Nat.mul_le_mul_right _ hc2, old'.toArray ++ new'.toArray ++ Builtin.zeroCells z.cells (c2 - (n + (m + 1))), e, (0, 0), by simp [L], by simp only [L]; omega, fun j _ => by simp, fun j v hj => by
              rw [PM.ofList_get] at hj
              have hjl : j < (n + (m + 1)) * i.size := by
                rcases Nat.lt_or_ge j ((n + (m + 1)) * i.size) with y | y
                · exact y
                · rw [List.getElem?_eq_none (by omega)] at hj; cases hj
              obtain ⟨v', k1, k2⟩ := happ.get hj
              refine ⟨hjl, v', ?_, k2.mono (Mu.add_ext L hfresh2)⟩
              have e1 : old'.toArray ++ new'.toArray = (old' ++ new').toArray := by simp
              rw [e1, Array.getElem?_append_left (by simp only [List.size_toArray, ← happ.1, hlen, L]; omega)]
              simpa [L] using k1⟩
          refine ⟨_, _, _, _, _, rfl, (hp1.trans hp2).trans hp3, ?_, hrun⟩
          have := VR.slice (μ := μ.add (forget h base).next L) (forget h base).next 0 (n + (m + 1)) (n + (m + 1)) c2 L (Mu.add_same _ _) (Nat.le_refl _) hc2 (by simp [L])
          simpa [L, forget_next] using this
    · cases hv
  | _ => simp only at hv; cases hv
end
end Go.AE

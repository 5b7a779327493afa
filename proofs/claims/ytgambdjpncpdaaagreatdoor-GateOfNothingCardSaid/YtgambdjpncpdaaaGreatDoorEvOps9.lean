/- What the evaluator computes of one operation, the model computes: maps. -/
import Derived.Test.YtgambdjpncpdaaaGreatDoorEvOps8
namespace Go.AE

section
variable {P : Program} {T : Tab} (ok : TabOk P T) {μ : Mu} {h : Mem} {w : World} (hr : HR P μ h w)

/-- What a key stands for is a key. -/
theorem key_conc {kt : Option TypeDesc} {k k' : Value} (hk : keyT kt k = true) (hv : VR μ k k') : keyT kt k' = true := by
  unfold keyT at hk
  split at hk
  · cases hv; rfl
  · cases hv; rfl
  · cases hv; exact hk
  · cases hk

theorem ba_beq (a b : ByteArray) : (a == b) = (a.data == b.data) := by cases a; cases b; rfl
theorem ba_self (a : ByteArray) : (a == a) = true := by rw [ba_beq]; simp

theorem key_rel {kt : TypeDesc} {k k' a a' : Value} {b : Bool} (hk : keyT (some kt) k = true) (h0 : VR μ k k') (h1 : VR μ a a') (hb : keyEq k a = some b) :
    Instr.sameNow kt k' a' = some b ∧ (b = true → a' = k') := by
  unfold keyT at hk
  split at hk
  · rename_i lo hi heq
    cases heq
    unfold keyEq at hb
    split at hb
    · rename_i heq1
      cases heq1
      cases hb
      cases h0 with
      | key _ _ L hl _ _ =>
      cases h1 with
      | key _ _ L' hl' _ _ =>
      rw [hl] at hl'; cases hl'
      exact ⟨by simp only [Instr.sameNow]; rw [ba_self], fun _ => rfl⟩
    · rename_i heq1; cases heq1
    · rename_i heq1; cases heq1
    · cases hb
  · rename_i s heq
    cases heq
    unfold keyEq at hb
    split at hb
    · rename_i heq1; cases heq1
    · rename_i s1 s2 heq1
      cases heq1
      cases h1
      cases h0
      cases hb
      refine ⟨?_, ?_⟩
      · simp only [Instr.sameNow]
        rw [beqL_eq, ba_beq]
        congr 1
        rw [Bool.eq_iff_iff]
        simp [txt]
      · intro hbt
        rw [beqL_eq] at hbt
        simp only [beq_iff_eq, txt] at hbt
        congr 1
        exact (ByteArray.ext (Array.ext' hbt)).symm
    · rename_i heq1; cases heq1
    · cases hb
  · rename_i kk kk' n heq
    cases heq
    have hkk := kindEq_eq hk
    subst hkk
    unfold keyEq at hb
    split at hb
    · rename_i heq1; cases heq1
    · rename_i heq1; cases heq1
    · rename_i j1 a1 j2 a2 heq1
      cases heq1
      cases h1
      cases h0
      cases hq : kindEq kk j2 with
      | false => rw [hq] at hb; cases hb
      | true =>
        rw [hq] at hb
        have := kindEq_eq hq
        subst this
        cases hb
        rw [intEq_eq]
        refine ⟨by simp [Instr.sameNow], ?_⟩
        intro hbt
        simp only [beq_iff_eq] at hbt
        rw [hbt]
    · cases hb
  · cases hk

theorem find_ok {kt : TypeDesc} {k k' : Value} (hk : keyT (some kt) k = true) (h0 : VR μ k k') : ∀ {es es' : List MapEntry} {i : Nat} {r : Option (Nat × Value)}, ER μ es es' → findKeyA k es i = some r →
    (r = none ∧ Instr.findNow kt k' es' i = some none) ∨ ∃ j v v', r = some (j, v) ∧ VR μ v v' ∧ Instr.findNow kt k' es' i = some (some (j, v')) ∧ i ≤ j ∧ ∃ e e', es[j - i]? = some e ∧ es'[j - i]? = some e' ∧ e'.key = k'
  | [], es', i, r, he, hf => by
    have : es' = [] := by
      cases es' with
      | nil => rfl
      | cons => have := he.1; simp at this
    subst this
    cases hf
    exact .inl ⟨rfl, rfl⟩
  | e :: es, es', i, r, he, hf => by
    obtain ⟨e', es2, rfl⟩ : ∃ e' es2, es' = e' :: es2 := by
      cases es' with
      | nil => have := he.1; simp at this
      | cons a b => exact ⟨a, b, rfl⟩
    obtain ⟨h1, h2, h3⟩ := he.2 0 e e' (by simp) (by simp)
    have htail : ER μ es es2 := ⟨by have := he.1; simpa using this, fun j a b ha hb => he.2 (j + 1) a b (by simpa using ha) (by simpa using hb)⟩
    unfold findKeyA at hf
    cases hb : keyEq k e.key with
    | none => rw [hb] at hf; cases hf
    | some b =>
      obtain ⟨q2, q3⟩ := key_rel hk h0 h1 hb
      rw [hb] at hf
      cases b with
      | true =>
        cases hf
        right
        exact ⟨i, _, _, rfl, h2, by unfold Instr.findNow; rw [q2], Nat.le_refl _, e, e', by simp, by simp, q3 rfl⟩
      | false =>
        simp only at hf
        rcases find_ok hk h0 htail hf with ⟨rfl, r2⟩ | ⟨j, v, v', rfl, r1, r2, r3, a, a', r4, r5, r6⟩
        · exact .inl ⟨rfl, by unfold Instr.findNow; rw [q2]; exact r2⟩
        · right
          refine ⟨j, v, v', rfl, r1, by unfold Instr.findNow; rw [q2]; exact r2, by omega, a, a', ?_, ?_, r6⟩
          · rw [show j - i = (j - (i + 1)) + 1 by omega]; simpa using r4
          · rw [show j - i = (j - (i + 1)) + 1 by omega]; simpa using r5

include ok in
theorem findKey_run {kt : TypeId} {d : TypeDesc} {k : Value} {es' : List MapEntry} {r : Option (Nat × Value)} (hu : T.und kt = some d) (hf : Instr.findNow d k es' 0 = some r) :
    (Instr.findKey kt k es').run P w = .ok r w := by
  unfold Instr.findKey
  rw [Sem.run_bind, run_und ok hu]
  simp only [Result.andThen_ok, hf, Sem.run_pure]

include ok in
theorem checkKey_run {kt : TypeId} {d : TypeDesc} {k : Value} (b : Bool) (hu : T.und kt = some d) (hk : keyT (some d) k = true) : (Instr.checkKey b 10000 kt k).run P w = .ok () w := by
  have hd : (10000 : Nat) = 9999 + 1 := rfl
  rw [hd]
  unfold Instr.checkKey
  rw [Sem.run_bind, run_und ok hu]
  unfold keyT at hk
  split at hk
  · rename_i heq; cases heq; rfl
  · rename_i heq; cases heq; rfl
  · rename_i heq; cases heq; rfl
  · cases hk

theorem keyT_some {o : Option TypeDesc} {k : Value} (hk : keyT o k = true) : ∃ d, o = some d := by
  cases o with
  | none => cases k <;> cases hk
  | some d => exact ⟨d, rfl⟩

include ok hr in
theorem lookup_ok {t : TypeId} {cok : Bool} {x y x' y' : Value} (hx : VR μ x x') (hy : VR μ y y') {r : Rs} (hv : lookupV T h t cok (some x) (some y) = some r) :
    ∃ v v', r = .value v h ∧ VR μ v v' ∧ RunV P w (Instr.lookup t x' y' cok) v' := by
  unfold lookupV at hv
  split at hv
  · rename_i rr k e1 e2; cases e1; cases e2
    cases hu : T.und t with
    | none => rw [hu] at hv; cases hv
    | some d =>
    rw [hu] at hv
    cases d with
    | map kt e =>
      simp only at hv
      cases he : entries h rr with
      | none => rw [he] at hv; cases hv
      | some es =>
      cases hk : keyT (T.und kt) y with
      | false => rw [he, hk] at hv; cases hv
      | true =>
      rw [he, hk] at hv
      simp only at hv
      obtain ⟨kd, hkd⟩ := keyT_some hk
      rw [hkd] at hk
      have hk' := key_conc hk hy
      have hes : ∃ es' : Array MapEntry, ER μ es es'.toList ∧ ((x' = .map none ∧ es' = #[]) ∨ ∃ B cl, x' = .map (some B) ∧ w.heap[B]? = some (.map es' cl)) := by
        rcases entries_ok hr hx he with ⟨rfl, rfl, rfl⟩ | ⟨id, L, cl, es', rfl, rfl, hl, hg, h1, h2⟩
        · exact ⟨#[], ⟨rfl, fun i a b ha _ => by simp at ha⟩, .inl ⟨rfl, rfl⟩⟩
        · exact ⟨es', h2, .inr ⟨_, cl, rfl, h1⟩⟩
      obtain ⟨es', her, hrun⟩ := hes
      cases hf : findKeyA y es 0 with
      | none => rw [hf] at hv; cases hv
      | some fr =>
      rw [hf] at hv
      rcases find_ok hk hy her hf with ⟨rfl, r2⟩ | ⟨j, v, v', rfl, r1, r2, _⟩
      · simp only [lookupR] at hv
        cases hz : T.zero e with
        | none => rw [hz] at hv; cases hv
        | some z =>
          rw [hz] at hv
          cases hv
          obtain ⟨_, _, _, hc⟩ := ok.zero hz
          refine ⟨_, _, rfl, found_ok (.of_closed hc) cok false, ?_⟩
          rcases hrun with ⟨rfl, rfl⟩ | ⟨B, cl, rfl, hw⟩
          · simp only [RunV, Instr.lookup, Sem.run_bind, run_und ok hu, Result.andThen_ok, Sem.run_pure, checkKey_run ok _ hkd hk', findKey_run ok hkd r2, run_zero ok hz]
          · simp only [RunV, Instr.lookup, Sem.run_bind, run_und ok hu, Result.andThen_ok, Sem.run_pure, getObj, Sem.run, hw, checkKey_run ok _ hkd hk', findKey_run ok hkd r2, run_zero ok hz]
      · simp only [lookupR] at hv
        cases hv
        refine ⟨_, _, rfl, found_ok r1 cok true, ?_⟩
        rcases hrun with ⟨rfl, rfl⟩ | ⟨B, cl, rfl, hw⟩
        · simp only [RunV, Instr.lookup, Sem.run_bind, run_und ok hu, Result.andThen_ok, Sem.run_pure, checkKey_run ok _ hkd hk', findKey_run ok hkd r2]
        · simp only [RunV, Instr.lookup, Sem.run_bind, run_und ok hu, Result.andThen_ok, Sem.run_pure, getObj, Sem.run, hw, checkKey_run ok _ hkd hk', findKey_run ok hkd r2]
    | _ => simp only at hv; cases hv
  · cases hv

theorem ER.modify {es es' : List MapEntry} {f g : MapEntry → MapEntry} (he : ER μ es es') (i : Nat)
    (hfg : ∀ e e', es[i]? = some e → es'[i]? = some e' → VR μ (f e).key (g e').key ∧ VR μ (f e).val (g e').val ∧ (f e).born = (g e').born) : ER μ (es.modify i f) (es'.modify i g) := by
  refine ⟨by simp [he.1], fun j a b ha hb => ?_⟩
  rw [List.getElem?_modify] at ha hb
  by_cases e : i = j
  · subst e
    cases h1 : es[i]? with
    | none => rw [h1] at ha; simp at ha
    | some x =>
      cases h2 : es'[i]? with
      | none => rw [h2] at hb; simp at hb
      | some y =>
        rw [h1] at ha; rw [h2] at hb
        simp at ha hb
        subst ha hb
        exact hfg x y h1 h2
  · cases h1 : es[j]? with
    | none => rw [h1] at ha; simp at ha
    | some x =>
      cases h2 : es'[j]? with
      | none => rw [h2] at hb; simp at hb
      | some y =>
        rw [h1] at ha; rw [h2] at hb
        simp [e] at ha hb
        subst ha hb
        exact he.2 j x y h1 h2
theorem ER.push {es es' : List MapEntry} {a b : MapEntry} (he : ER μ es es') (hab : VR μ a.key b.key ∧ VR μ a.val b.val ∧ a.born = b.born) : ER μ (es ++ [a]) (es' ++ [b]) := by
  refine ⟨by simp [he.1], fun j x y hx hy => ?_⟩
  have hl := he.1
  rcases Nat.lt_or_ge j es.length with q | q
  · rw [List.getElem?_append_left q] at hx
    rw [List.getElem?_append_left (by omega)] at hy
    exact he.2 j x y hx hy
  · rw [List.getElem?_append_right q] at hx
    rw [List.getElem?_append_right (by omega), ← hl] at hy
    cases hj : j - es.length with
    | zero => rw [hj] at hx hy; simp at hx hy; subst hx hy; exact hab
    | succ n => rw [hj] at hx; simp at hx

include hr in
theorem setMap_ok {id : Nat} {L : Loc} {es2 : List MapEntry} {cl cl2 : Nat} {es : List MapEntry} {es' es2' : Array MapEntry} (hl : μ id = some L) (hg : h.bs.get id = some (.map es cl)) (hw : w.heap[L.blk]? = some (.map es' cl))
    (he : ER μ es2 es2'.toList) :
    ∃ w', (setObj L.blk (.map es2' cl2)).run P w = .ok () w' ∧ Post P μ h w μ (h.set id (.map es2 cl2)) w' := by
  refine ⟨{ w with heap := w.heap.setIfInBounds L.blk (.map es2' cl2) }, by simp [setObj, Sem.run, hw], Post.write hr hg hl (by simp) (fun k hk => ?_) rfl rfl rfl ⟨es2', ?_, he⟩⟩
  · simp only [Array.getElem?_setIfInBounds_ne (Ne.symm hk)]
  · have := (Array.getElem?_eq_some_iff.1 hw).1
    simp [this]

theorem keyStays_run {k k2 : Value} {d : TypeDesc} (hk : keyT (some d) k = true) (he : k2 = k) : (Instr.keyThatStays k2 k).run P w = .ok k w := by
  subst he
  have hd : (10000 : Nat) = 9999 + 1 := rfl
  unfold Instr.keyThatStays
  rw [hd]
  unfold keyT at hk
  split at hk
  · rename_i heq; cases heq; simp [Instr.sameBits]
  · rename_i s heq _; cases heq; simp [Instr.sameBits, ba_self]
  · rename_i heq; cases heq; simp [Instr.sameBits]
  · cases hk

theorem key_at {es' : Array MapEntry} {j : Nat} {e' : MapEntry} (k : Value) (h5 : es'.toList[j]? = some e') : (((es'[j]?).map (·.key)).getD k) = e'.key := by
  rw [Array.getElem?_toList] at h5
  rw [h5]; rfl

include ok hr in
theorem mapUpd_ok {t : TypeId} {x y z x' y' z' : Value} (hx : VR μ x x') (hy : VR μ y y') (hz : VR μ z z') {r : Rs} (hv : mapUpdV T h t (some x) (some y) (some z) = some r) :
    ∃ h' w', r = .value bad h' ∧ Post P μ h w μ h' w' ∧ (Instr.mapUpdate t x' y' z').run P w = .ok () w' := by
  unfold mapUpdV at hv
  split at hv
  · rename_i id k v e1 e2 e3; cases e1; cases e2; cases e3
    cases hu : T.und t with
    | none => rw [hu] at hv; cases hv
    | some d =>
    rw [hu] at hv
    cases d with
    | map kt e =>
      simp only at hv
      cases hg : h.bs.get id with
      | none => rw [hg] at hv; cases hv
      | some ob =>
      rw [hg] at hv
      cases ob with
      | cells _ _ _ => cases hv
      | siter _ _ => cases hv
      | miter _ _ _ _ => cases hv
      | map es cl =>
      cases hk : keyT (T.und kt) y with
      | false => rw [hk] at hv; cases hv
      | true =>
      rw [hk] at hv
      simp only at hv
      obtain ⟨kd, hkd⟩ := keyT_some hk
      rw [hkd] at hk
      have hk' := key_conc hk hy
      cases hx with
      | map _ L hl =>
      obtain ⟨L', hl', ho⟩ := hr.dom _ _ hg
      rw [hl] at hl'; cases hl'
      obtain ⟨es', hw, her⟩ := ho
      have hget : (getObj L.blk).run P w = .ok (.map es' cl) w := by simp [getObj, Sem.run, hw]
      cases hf : findKeyA y es 0 with
      | none => rw [hf] at hv; cases hv
      | some fr =>
      rw [hf] at hv
      rcases find_ok hk hy her hf with ⟨rfl, r2⟩ | ⟨j, v, v', rfl, r1, r2, r3, a, a', r4, r5, r6⟩
      · simp only [updR] at hv
        cases hv
        have hpush : ER μ (es ++ [{ key := y, val := z, born := cl }]) (es'.push { key := y', val := z', born := cl }).toList := by
          rw [Array.toList_push]; exact her.push ⟨hy, hz, rfl⟩
        obtain ⟨w', g1, g2⟩ := setMap_ok (cl2 := cl + 1) hr hl hg hw hpush
        refine ⟨_, w', rfl, g2, ?_⟩
        simp only [Instr.mapUpdate, Sem.run_bind, run_und ok hu, Result.andThen_ok, hget, checkKey_run ok _ hkd hk', findKey_run ok hkd r2, g1]
      · simp only [updR] at hv
        cases hv
        rw [Nat.sub_zero] at r4 r5
        have hmod : ER μ (es.modify j fun e => { e with key := y, val := z }) (es'.modify j fun e => { e with key := y', val := z' }).toList := by
          rw [Array.toList_modify]
          exact her.modify j fun e e' he he' => ⟨hy, hz, (her.2 j e e' he he').2.2⟩
        obtain ⟨w', g1, g2⟩ := setMap_ok (cl2 := cl) hr hl hg hw hmod
        refine ⟨_, w', rfl, g2, ?_⟩
        simp only [Instr.mapUpdate, Sem.run_bind, run_und ok hu, Result.andThen_ok, hget, checkKey_run ok _ hkd hk', findKey_run ok hkd r2, keyStays_run hk' ((key_at y' r5).trans r6), g1]
    | _ => simp only at hv; cases hv
  · cases hv

include ok hr in
theorem mapEnt_ok {t : TypeId} {x y x' y' : Value} (hx : VR μ x x') (hy : VR μ y y') {r : Rs} (hv : mapEntV T h t (some x) (some y) = some r) :
    ∃ h' v v' w', r = .value v h' ∧ Post P μ h w μ h' w' ∧ VR μ v v' ∧ (Instr.mapEntry t x' y').run P w = .ok v' w' := by
  unfold mapEntV at hv
  split at hv
  · rename_i id k e1 e2; cases e1; cases e2
    cases hu : T.und t with
    | none => rw [hu] at hv; cases hv
    | some d =>
    rw [hu] at hv
    cases d with
    | map kt e =>
      simp only at hv
      cases hg : h.bs.get id with
      | none => rw [hg] at hv; cases hv
      | some ob =>
      rw [hg] at hv
      cases ob with
      | cells _ _ _ => cases hv
      | siter _ _ => cases hv
      | miter _ _ _ _ => cases hv
      | map es cl =>
      cases hk : keyT (T.und kt) y with
      | false => rw [hk] at hv; cases hv
      | true =>
      rw [hk] at hv
      simp only at hv
      obtain ⟨kd, hkd⟩ := keyT_some hk
      rw [hkd] at hk
      have hk' := key_conc hk hy
      cases hx with
      | map _ L hl =>
      obtain ⟨L', hl', ho⟩ := hr.dom _ _ hg
      rw [hl] at hl'; cases hl'
      obtain ⟨es', hw, her⟩ := ho
      have hget : (getObj L.blk).run P w = .ok (.map es' cl) w := by simp [getObj, Sem.run, hw]
      cases hf : findKeyA y es 0 with
      | none => rw [hf] at hv; cases hv
      | some fr =>
      rw [hf] at hv
      rcases find_ok hk hy her hf with ⟨rfl, r2⟩ | ⟨j, v, v', rfl, r1, r2, r3, a, a', r4, r5, r6⟩
      · simp only [entR] at hv
        cases hz : T.zero e with
        | none => rw [hz] at hv; cases hv
        | some z =>
        rw [hz] at hv
        cases hv
        obtain ⟨_, _, _, hc⟩ := ok.zero hz
        have hpush : ER μ (es ++ [{ key := y, val := z, born := cl }]) (es'.push { key := y', val := z, born := cl }).toList := by
          rw [Array.toList_push]; exact her.push ⟨hy, .of_closed hc, rfl⟩
        obtain ⟨w', g1, g2⟩ := setMap_ok (cl2 := cl + 1) hr hl hg hw hpush
        refine ⟨_, _, .tuple #[z, goInt cl], w', rfl, g2, VR.tuple_mk (.cons (.of_closed hc) (.cons (.int _ _) .nil)), ?_⟩
        simp only [Instr.mapEntry, Sem.run_bind, run_und ok hu, Result.andThen_ok, hget, checkKey_run ok _ hkd hk', findKey_run ok hkd r2, run_zero ok hz, g1, Sem.run_pure]
      · simp only [entR] at hv
        cases hv
        rw [Nat.sub_zero] at r4 r5
        have hborn := (her.2 j a a' r4 r5).2.2
        have hmod : ER μ (es.modify j fun e => { e with key := y }) (es'.modify j fun e => { e with key := y' }).toList := by
          rw [Array.toList_modify]
          exact her.modify j fun e e' he he' => ⟨hy, (her.2 j e e' he he').2.1, (her.2 j e e' he he').2.2⟩
        obtain ⟨w', g1, g2⟩ := setMap_ok (cl2 := cl) hr hl hg hw hmod
        have hb : (((es'[j]?).map (fun x => (x.born : Int))).getD 0) = (bornAt es j : Int) := by
          rw [Array.getElem?_toList] at r5
          simp [r5, bornAt, r4, hborn]
        refine ⟨_, _, .tuple #[v', goInt (bornAt es j)], w', rfl, g2, VR.tuple_mk (.cons r1 (.cons (.int _ _) .nil)), ?_⟩
        simp only [Instr.mapEntry, Sem.run_bind, run_und ok hu, Result.andThen_ok, hget, checkKey_run ok _ hkd hk', findKey_run ok hkd r2, keyStays_run hk' ((key_at y' r5).trans r6), g1, Sem.run_pure, hb]
    | _ => simp only at hv; cases hv
  · cases hv

theorem born_ok {b : Int} : ∀ {es es' : List MapEntry} {i j : Nat}, ER μ es es' → bornIdx b es i = some j → i ≤ j ∧ es'.findIdx? (fun e => (e.born : Int) == b) = some (j - i)
  | [], es', i, j, he, hb => by cases hb
  | e :: es, es', i, j, he, hb => by
    obtain ⟨e', es2, rfl⟩ : ∃ e' es2, es' = e' :: es2 := by
      cases es' with
      | nil => have := he.1; simp at this
      | cons a b => exact ⟨a, b, rfl⟩
    have h3 := (he.2 0 e e' (by simp) (by simp)).2.2
    have htail : ER μ es es2 := ⟨by have := he.1; simpa using this, fun j a b ha hb => he.2 (j + 1) a b (by simpa using ha) (by simpa using hb)⟩
    unfold bornIdx at hb
    rw [intEq_eq] at hb
    simp only [Int.ofNat_eq_natCast] at hb
    rw [List.findIdx?_cons, ← h3]
    cases hq : ((e.born : Int) == b) with
    | true => rw [hq] at hb; cases hb; simp
    | false =>
      rw [hq] at hb
      obtain ⟨h1, h2⟩ := born_ok htail hb
      refine ⟨by omega, ?_⟩
      rw [h2]
      simp
      omega

include hr in
theorem entStore_ok {x y z x' y' z' : Value} (t : TypeId) (hx : VR μ x x') (hy : VR μ y y') (hz : VR μ z z') {r : Rs} (hv : entStoreV h (some x) (some y) (some z) = some r) :
    ∃ h' w', r = .value bad h' ∧ Post P μ h w μ h' w' ∧ (Instr.entryStore t x' y' z').run P w = .ok () w' := by
  unfold entStoreV at hv
  split at hv
  · rename_i id k b v e1 e2 e3; cases e1; cases e2; cases e3
    cases hy
    cases hg : h.bs.get id with
    | none => rw [hg] at hv; cases hv
    | some ob =>
    rw [hg] at hv
    cases ob with
    | cells _ _ _ => cases hv
    | siter _ _ => cases hv
    | miter _ _ _ _ => cases hv
    | map es cl =>
    simp only at hv
    cases hbi : bornIdx b es 0 with
    | none => rw [hbi] at hv; cases hv
    | some j =>
    rw [hbi] at hv
    cases hv
    cases hx with
    | map _ L hl =>
    obtain ⟨L', hl', ho⟩ := hr.dom _ _ hg
    rw [hl] at hl'; cases hl'
    obtain ⟨es', hw, her⟩ := ho
    have hget : (getObj L.blk).run P w = .ok (.map es' cl) w := by simp [getObj, Sem.run, hw]
    obtain ⟨_, hfi⟩ := born_ok her hbi
    rw [Nat.sub_zero] at hfi
    have hfi2 : es'.findIdx? (fun e => (e.born : Int) == b) = some j := by rw [← hfi]; obtain ⟨l⟩ := es'; simp
    have hmod : ER μ (es.modify j fun e => { e with val := z }) (es'.modify j fun e => { e with val := z' }).toList := by
      rw [Array.toList_modify]
      exact her.modify j fun e e' he he' => ⟨(her.2 j e e' he he').1, hz, (her.2 j e e' he he').2.2⟩
    obtain ⟨w', g1, g2⟩ := setMap_ok (cl2 := cl) hr hl hg hw hmod
    refine ⟨_, w', rfl, g2, ?_⟩
    simp only [Instr.entryStore, Sem.run_bind, hget, Result.andThen_ok, asInt, asIntOf, Sem.run_pure, hfi2, g1]
  · cases hv

include hr in
theorem makeMap_ok {t : TypeId} {rs : Option Operand} {r : Rs} (hv : makeMapR h rs = some r) (hnew : NewIn μ h.next (nextOf h r)) :
    ∃ μ' h' v v' w', r = .value v h' ∧ rs = none ∧ Post P μ h w μ' h' w' ∧ VR μ' v v' ∧ (Instr.makeMap t none).run P w = .ok v' w' := by
  unfold makeMapR at hv
  split at hv
  · simp only [frN_eq, Option.some.injEq] at hv
    subst hv
    let L : Loc := ⟨w.heap.size, 0, 0, 0, .empty, []⟩
    have hfresh := newIn_alloc hnew
    have hp := Post.alloc (w := w) hr hfresh L (.map [] 0) (.map #[] 0) rfl ⟨#[], by simp [L], rfl, fun i a b ha _ => by simp at ha⟩
    refine ⟨_, _, _, .map (some w.heap.size), _, rfl, rfl, hp, ?_, ?_⟩
    · have := VR.map (μ := μ.add h.next L) h.next L (Mu.add_same _ _)
      simpa [L] using this
    · simp [Instr.makeMap]
  · cases hv
end
end Go.AE

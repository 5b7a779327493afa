/- What the evaluator computes of one operation, the model computes: what is made, parts of what there is. -/
import Derived.Test.YtgambdjpncpdaaaGreatDoorEvOps2
import Derived.IntWalk
namespace Go.AE

section
variable {P : Program} {T : Tab} (ok : TabOk P T) {μ : Mu} {h : Mem} {w : World} (hr : HR P μ h w)

def nextOf (h : Mem) : Rs → Nat
  | .value _ h' => h'.next
  | _ => h.next

theorem newIn_alloc {ob : Ob} {v : Value} (hnew : NewIn μ h.next (nextOf h (.value v (h.alloc ob)))) : μ h.next = none :=
  hnew _ (Nat.le_refl _) (by simp only [nextOf, alloc_eq]; omega)

theorem newRow_next {ety : TypeId} {sz : Option Nat} {l : List Value} {r : Rs} (hn : newRow h ety sz l = some r) : nextOf h r = h.next + 1 := by
  unfold newRow at hn
  split at hn
  · simp only [frN_eq, Option.some.injEq] at hn; subst hn; simp [nextOf, alloc_eq]
  · cases hn

include ok hr in
theorem alloc_ok {t : TypeId} {r : Rs} (hv : allocV T h t = some r) (hnew : NewIn μ h.next (nextOf h r)) :
    ∃ μ' h' v v' w', r = .value v h' ∧ Post P μ h w μ' h' w' ∧ VR μ' v v' ∧ (Instr.alloc t true (.tuple #[])).run P w = .ok v' w' := by
  unfold allocV at hv
  cases hz : T.zero t with
  | none => rw [hz] at hv; cases hv
  | some z =>
    rw [hz] at hv
    obtain ⟨_, _, _, hc⟩ := ok.zero hz
    have hn := newRow_next hv
    obtain ⟨μ', h', h1, h2, h3⟩ := newRow_ok (e := t) (w := w) hr hv (VR.of_closed (μ := μ) hc).cells (fun n hn => ok.tsize hn) (hnew _ (Nat.le_refl _) (by omega))
    refine ⟨μ', h', _, _, _, h1, h2, h3, ?_⟩
    simp [Instr.alloc, run_zero ok hz, newVar, Go.newRow]

include ok hr in
theorem box_ok {t : TypeId} {x x' : Value} {r : Rs} (hx : VR μ x x') (hv : boxV T h t (some x) = some r) (hnew : NewIn μ h.next (nextOf h r)) :
    ∃ μ' h' v v' w', r = .value v h' ∧ Post P μ h w μ' h' w' ∧ VR μ' v v' ∧ (Instr.box t x').run P w = .ok v' w' := by
  unfold boxV at hv
  have hn := newRow_next hv
  obtain ⟨μ', h', h1, h2, h3⟩ := newRow_ok (e := t) (w := w) hr hv hx.cells (fun n hn => ok.tsize hn) (hnew _ (Nat.le_refl _) (by omega))
  refine ⟨μ', h', _, _, _, h1, h2, h3, ?_⟩
  simp [Instr.box, newVar, Go.newRow]

/-- Cells of which each is known. -/
def CR (μ : Mu) (total : Nat) (c : PM Value) (cs : Array Value) : Prop := cs.size = total ∧ ∀ j, j < total → ∃ v v', c.get j = some v ∧ cs[j]? = some v' ∧ VR μ v v'

theorem fold_cells (off : Nat) : ∀ (vs : List Value) (k : Nat) (cs : Array Value), off + k + vs.length ≤ cs.size →
    ((vs.zipIdx k).foldl (fun cs (x : Value × Nat) => cs.setIfInBounds (off + x.2) x.1) cs).size = cs.size ∧
    ∀ j : Nat, ((vs.zipIdx k).foldl (fun cs (x : Value × Nat) => cs.setIfInBounds (off + x.2) x.1) cs)[j]? = if off + k ≤ j ∧ j < off + k + vs.length then vs[j - (off + k)]? else cs[j]?
  | [], k, cs, _ => by
    refine ⟨rfl, fun j => ?_⟩
    rw [if_neg (by simp only [List.length_nil]; omega)]
    rfl
  | v :: vs, k, cs, hk => by
    simp only [List.length_cons] at hk
    simp only [List.zipIdx_cons, List.foldl_cons]
    obtain ⟨h1, h2⟩ := fold_cells off vs (k + 1) (cs.setIfInBounds (off + k) v) (by simp; omega)
    refine ⟨by rw [h1]; simp, fun j => ?_⟩
    rw [h2]
    simp only [List.length_cons]
    by_cases e1 : j = off + k
    · subst e1
      have hlt : off + k < cs.size := by omega
      rw [if_neg (by omega), if_pos (by omega)]
      simp [hlt]
    · by_cases e2 : off + (k + 1) ≤ j ∧ j < off + (k + 1) + vs.length
      · rw [if_pos e2, if_pos (by omega)]
        obtain ⟨q, rfl⟩ : ∃ q, j = off + (k + 1) + q := ⟨j - (off + (k + 1)), by omega⟩
        rw [show off + (k + 1) + q - (off + (k + 1)) = q by omega, show off + (k + 1) + q - (off + k) = q + 1 by omega]
        simp
      · rw [if_neg e2, if_neg (by omega)]
        rw [Array.getElem?_setIfInBounds_ne (by omega)]

/-- Parts, name by name. -/
def PR (μ : Mu) (l l' : List (Nat × Value)) : Prop := l.length = l'.length ∧ ∀ (i : Nat) (p p' : Nat × Value), l[i]? = some p → l'[i]? = some p' → p.1 = p'.1 ∧ VR μ p.2 p'.2
theorem PR.cons_inv {p : Nat × Value} {l m : List (Nat × Value)} (h : PR μ (p :: l) m) : ∃ p' l', m = p' :: l' ∧ p.1 = p'.1 ∧ VR μ p.2 p'.2 ∧ PR μ l l' := by
  cases m with
  | nil => have := h.1; simp at this
  | cons p' l' =>
    have h0 := h.2 0 p p' (by simp) (by simp)
    exact ⟨p', l', rfl, h0.1, h0.2, by have := h.1; simpa using this, fun i a b ha hb => h.2 (i + 1) a b (by simpa using ha) (by simpa using hb)⟩

theorem evalParts_ok {ρ : PM Value} {a : Act} (ht : TR μ ρ a.tmps) : ∀ {ps : List (Nat × Operand)} {l : List (Nat × Value)}, evalParts ρ ps = some l → PR μ l (ps.map fun (i, x) => (i, a.eval x))
  | [], l, hl => by cases hl; exact ⟨rfl, fun i p p' hp _ => by simp at hp⟩
  | (i, x) :: ps, l, hl => by
    unfold evalParts at hl
    cases hx : eval x ρ with
    | none => rw [hx] at hl; cases hl
    | some v =>
      rw [hx] at hl
      cases hy : evalParts ρ ps with
      | none => rw [hy] at hl; cases hl
      | some m =>
        rw [hy] at hl
        cases hl
        obtain ⟨h1, h2⟩ := evalParts_ok ht hy
        refine ⟨by simp [h1], fun j p p' hp hp' => ?_⟩
        cases j with
        | zero => simp at hp hp'; subst hp hp'; exact ⟨rfl, eval_ok ht hx⟩
        | succ j => exact h2 j p p' (by simpa using hp) (by simpa using hp')

theorem fill_ok {place : Nat → Option (Nat × Nat)} {total : Nat} : ∀ {ps ps' : List (Nat × Value)} {c c' : PM Value} {cs : Array Value},
    fillParts place total c ps = some c' → PR μ ps ps' → CR μ total c cs → ∃ cs', Instr.fill place cs ps' = some cs' ∧ CR μ total c' cs'
  | [], ps', c, c', cs, hf, hp, hc => by
    have : ps' = [] := by
      cases ps' with
      | nil => rfl
      | cons => have := hp.1; simp at this
    subst this
    cases hf
    exact ⟨cs, rfl, hc⟩
  | (i, v) :: ps, ps', c, c', cs, hf, hp, hc => by
    obtain ⟨⟨i', v'⟩, l', rfl, hi, hv, hp'⟩ := hp.cons_inv
    simp only at hi hv
    subst hi
    unfold fillParts at hf
    cases hpl : place i with
    | none => rw [hpl] at hf; cases hf
    | some os =>
      obtain ⟨off, size⟩ := os
      rw [hpl] at hf
      simp only at hf
      cases hb : (Nat.beq (cellsL v).length size && Nat.ble (off + size) total) with
      | false => rw [hb] at hf; cases hf
      | true =>
        rw [hb] at hf
        simp only at hf
        rw [Bool.and_eq_true] at hb
        have hb1 : (cellsL v).length = size := Nat.eq_of_beq_eq_true hb.1
        have hb2 : off + size ≤ total := Nat.le_of_ble_eq_true hb.2
        have hcv := hv.cells
        have hlen : v'.cells.size = size := by have := hcv.1; simp at this; omega
        have hfold := fold_cells off v'.cells.toList 0 cs (by simp only [Array.length_toList]; have := hc.1; omega)
        have hnew : CR μ total (c.fill off (cellsL v)) (v'.cells.zipIdx.foldl (fun cs (x : Value × Nat) => cs.setIfInBounds (off + x.2) x.1) cs) := by
          have e : v'.cells.zipIdx.foldl (fun cs (x : Value × Nat) => cs.setIfInBounds (off + x.2) x.1) cs =
              (v'.cells.toList.zipIdx 0).foldl (fun cs (x : Value × Nat) => cs.setIfInBounds (off + x.2) x.1) cs := by
            rw [← Array.foldl_toList, Array.toList_zipIdx]
          rw [e]
          refine ⟨by rw [hfold.1]; exact hc.1, fun j hj => ?_⟩
          rw [PM.fill_get, hfold.2]
          simp only [Nat.add_zero, Array.length_toList]
          by_cases hj2 : off ≤ j ∧ j < off + (cellsL v).length
          · rw [if_pos hj2, if_pos (by omega)]
            have hlt : j - off < (cellsL v).length := by omega
            obtain ⟨u, h1, h2⟩ := hcv.get (List.getElem?_eq_getElem hlt)
            exact ⟨_, u, List.getElem?_eq_getElem hlt, h1, h2⟩
          · rw [if_neg hj2, if_neg (by omega)]
            exact hc.2 j hj
        obtain ⟨cs', h1, h2⟩ := fill_ok hf hp' hnew
        refine ⟨cs', ?_, h2⟩
        unfold Instr.fill
        rw [hpl]
        simp only [hlen, ne_eq, not_true, decide_false, Bool.false_or]
        rw [if_neg (by simp; have := hc.1; omega)]
        exact h1

theorem CR.ofList {l l' : List Value} (hl : LR μ l l') : CR μ l.length (PM.ofList l) l'.toArray := by
  refine ⟨by simp [hl.1], fun j hj => ?_⟩
  rw [PM.ofList_get]
  obtain ⟨v', h1, h2⟩ := hl.get (List.getElem?_eq_getElem hj)
  exact ⟨_, v', List.getElem?_eq_getElem hj, by simpa using h1, h2⟩
theorem CR.row {n total : Nat} {c : PM Value} {cs : Array Value} {l : List Value} (hc : CR μ total c cs) (hn : n = total) (hrow : c.row n 0 = some l) : LR μ l cs.toList := by
  obtain ⟨h1, h2⟩ := PM.row_spec _ _ _ _ hrow
  refine ⟨by simp [h1, hn, hc.1], fun i v v' hv hv' => ?_⟩
  have hi : i < n := by
    rcases Nat.lt_or_ge i n with x | x
    · exact x
    · rw [List.getElem?_eq_none (by omega)] at hv; cases hv
  obtain ⟨u, u', h3, h4, h5⟩ := hc.2 i (by omega)
  have h6 := h2 i hi
  rw [Nat.zero_add, h3, hv] at h6
  cases h6
  rw [Array.getElem?_toList, h4] at hv'
  cases hv'
  exact h5

include ok in
theorem places_run : ∀ {fs : List Field} {l : List (Nat × Nat)}, placesL T fs = some l → (fs.mapM fun f => (do pure (f.offset, ← sizeOf f.type) : Sem (Nat × Nat))).run P w = .ok l w
  | [], l, hl => by cases hl; rfl
  | f :: fs, l, hl => by
    unfold placesL at hl
    cases hz : T.size f.type with
    | none => rw [hz] at hl; cases hl
    | some n =>
      cases hp : placesL T fs with
      | none => rw [hz, hp] at hl; cases hl
      | some m =>
        rw [hz, hp] at hl
        cases hl
        have ih := places_run hp
        simp only [List.mapM_cons, Sem.run_bind, run_size ok hz, Result.andThen_ok, Sem.run_pure, ih]

include ok in
theorem build_ok {t : TypeId} {ps ps' : List (Nat × Value)} {v : Value} (hp : PR μ ps ps') (hv : buildV T t (some ps) = some v) :
    ∃ v', VR μ v v' ∧ (Instr.build t ps'.toArray).run P w = .ok v' w := by
  unfold buildV at hv
  cases hz : T.zero t with
  | none => rw [hz] at hv; cases hv
  | some z =>
    rw [hz] at hv
    obtain ⟨_, _, _, hc⟩ := ok.zero hz
    have hzl := (VR.of_closed (μ := μ) hc).cells
    have hcr := CR.ofList hzl
    simp only at hv
    unfold buildD at hv
    cases hu : T.und t with
    | none => rw [hu] at hv; cases hv
    | some d =>
      rw [hu] at hv
      cases d with
      | struct fs =>
        simp only at hv
        cases hpl : placesL T fs.toList with
        | none => rw [hpl] at hv; cases hv
        | some pl =>
          rw [hpl] at hv
          simp only [buildRow] at hv
          cases hf : fillParts (placeL pl) (cellsL z).length (PM.ofList (cellsL z)) ps with
          | none => rw [hf] at hv; cases hv
          | some c =>
            rw [hf] at hv
            simp only at hv
            cases hrow : c.row (cellsL z).length 0 with
            | none => rw [hrow] at hv; cases hv
            | some l =>
              rw [hrow] at hv
              cases hv
              obtain ⟨cs', h1, h2⟩ := fill_ok hf hp hcr
              refine ⟨.agg cs', VR.agg_mk (h2.row rfl hrow), ?_⟩
              have hm : (fs.mapM fun f => (do pure (f.offset, ← sizeOf f.type) : Sem (Nat × Nat))).run P w = .ok pl.toArray w := by
                rw [Array.mapM_eq_mapM_toList, Sem.run_map, places_run ok hpl]
                rfl
              have e : (fun i => pl.toArray[i]?) = placeL pl := by funext i; simp [placeL]
              simp only [Array.toArray_toList] at h1
              simp only [Instr.build, Sem.run_bind, run_zero ok hz, Result.andThen_ok, run_und ok hu, hm, e, h1, Sem.run_pure]
      | array n e =>
        simp only at hv
        cases hsz : T.size e with
        | none => rw [hsz] at hv; cases hv
        | some size =>
          rw [hsz] at hv
          simp only [buildRow] at hv
          cases hf : fillParts (placeE size) (cellsL z).length (PM.ofList (cellsL z)) ps with
          | none => rw [hf] at hv; cases hv
          | some c =>
            rw [hf] at hv
            simp only at hv
            cases hrow : c.row (cellsL z).length 0 with
            | none => rw [hrow] at hv; cases hv
            | some l =>
              rw [hrow] at hv
              cases hv
              obtain ⟨cs', h1, h2⟩ := fill_ok hf hp hcr
              refine ⟨.agg cs', VR.agg_mk (h2.row rfl hrow), ?_⟩
              simp only [Array.toArray_toList] at h1
              have e : (fun i => some (i * size, size)) = placeE size := rfl
              simp only [Instr.build, Sem.run_bind, run_zero ok hz, Result.andThen_ok, run_und ok hu, run_size ok hsz, e, h1, Sem.run_pure]
      | _ => simp only at hv; cases hv

theorem repeatL_length (l : List Value) : ∀ n, (repeatL l n).length = n * l.length
  | 0 => by simp [repeatL]
  | n + 1 => by simp [repeatL, repeatL_length l n, Nat.succ_mul, Nat.add_comm]
theorem repeatL_get (l : List Value) : ∀ n j, j < n * l.length → (repeatL l n)[j]? = l[j % l.length]?
  | 0, j, h => by simp at h
  | n + 1, j, h => by
    unfold repeatL
    rcases Nat.lt_or_ge j l.length with x | x
    · rw [List.getElem?_append_left x, Nat.mod_eq_of_lt x]
    · rw [List.getElem?_append_right x, repeatL_get l n _ (by rw [Nat.succ_mul] at h; omega), Nat.mod_eq_sub_mod x]

theorem zeros_ok {z : Value} {n : Nat} (hc : closed z = true) : LR μ (repeatL (cellsL z) n) ((Array.range (n * z.cells.size)).map (z.cells[· % z.cells.size]!)).toList := by
  have hz := (VR.of_closed (μ := μ) hc).cells
  have hlen : (cellsL z).length = z.cells.size := by simpa using hz.1
  refine ⟨by simp [repeatL_length, hlen], fun i v v' hv hv' => ?_⟩
  have hi : i < n * (cellsL z).length := by
    rcases Nat.lt_or_ge i (n * (cellsL z).length) with x | x
    · exact x
    · rw [List.getElem?_eq_none (by rw [repeatL_length]; exact x)] at hv; cases hv
  rw [repeatL_get _ _ _ hi] at hv
  obtain ⟨u, h1, h2⟩ := hz.get hv
  have hpos : 0 < z.cells.size := by
    rcases Nat.eq_zero_or_pos z.cells.size with e | e
    · rw [hlen, e] at hi; simp at hi
    · exact e
  have hlt : i % z.cells.size < z.cells.size := Nat.mod_lt _ hpos
  rw [hlen, Array.getElem?_toList, Array.getElem?_eq_getElem hlt] at h1
  cases h1
  rw [Array.getElem?_toList, Array.getElem?_map, Array.getElem?_range, if_pos (by rw [← hlen]; exact hi)] at hv'
  simp only [Option.map_some, Option.some.injEq] at hv'
  subst hv'
  rw [getElem!_pos z.cells _ hlt]
  exact h2

include hr in
theorem mkSlice_ok {e : TypeId} {size len cap : Nat} {c : PM Value} {cs : Array Value} (hz : tsize P e = some size) (hc : CR μ (cap * size) c cs) (hl : len ≤ cap) (hnew : μ h.next = none)
    (hdom : ∀ j v, c.get j = some v → j < cap * size) :
    ∃ μ', Post P μ h w μ' (h.alloc (.cells e (cap * size) c)) { w with heap := w.heap.push (.cells cs e) } ∧ VR μ' (.slice (some ⟨h.next, 0, none⟩) len cap) (.slice (some ⟨w.heap.size, 0, none⟩) len cap) := by
  let L : Loc := ⟨w.heap.size, 0, cap * size, size, .empty, []⟩
  refine ⟨μ.add h.next L, Post.alloc hr hnew L _ _ rfl ⟨.inl rfl, hz, Nat.le_refl _, cs, e, (0, 0), by simp [L], by simp [L, hc.1], fun i _ => by simp, fun i v hv => ?_⟩, ?_⟩
  · have hi := hdom i v hv
    obtain ⟨u, u', h1, h2, h3⟩ := hc.2 i hi
    rw [hv] at h1
    cases h1
    exact ⟨hi, u', by simpa [L] using h2, h3.mono (Mu.add_ext L hnew)⟩
  · have := VR.slice (μ := μ.add h.next L) h.next 0 len cap cap L (Mu.add_same _ _) hl (Nat.le_refl _) (by simp [L])
    simpa [L] using this

theorem fill_dom {total : Nat} {c : PM Value} (off : Nat) (l : List Value) (hd : ∀ j v, c.get j = some v → j < total) (hl : off + l.length ≤ total) : ∀ j v, (c.fill off l).get j = some v → j < total := by
  intro j v hv
  rw [PM.fill_get] at hv
  split at hv
  · omega
  · exact hd j v hv
theorem fillParts_dom {place : Nat → Option (Nat × Nat)} {total : Nat} : ∀ {ps : List (Nat × Value)} {c c' : PM Value}, fillParts place total c ps = some c' →
    (∀ j v, c.get j = some v → j < total) → ∀ j v, c'.get j = some v → j < total
  | [], c, c', hf, hd => by cases hf; exact hd
  | (i, v) :: ps, c, c', hf, hd => by
    unfold fillParts at hf
    cases hpl : place i with
    | none => rw [hpl] at hf; cases hf
    | some os =>
      obtain ⟨off, size⟩ := os
      rw [hpl] at hf
      simp only at hf
      cases hb : (Nat.beq (cellsL v).length size && Nat.ble (off + size) total) with
      | false => rw [hb] at hf; cases hf
      | true =>
        rw [hb] at hf
        simp only at hf
        rw [Bool.and_eq_true] at hb
        have hb1 : (cellsL v).length = size := Nat.eq_of_beq_eq_true hb.1
        have hb2 : off + size ≤ total := Nat.le_of_ble_eq_true hb.2
        exact fillParts_dom hf (fill_dom off _ hd (by omega))
theorem ofList_dom (l : List Value) : ∀ j v, (PM.ofList l).get j = some v → j < l.length := by
  intro j v hv
  rw [PM.ofList_get] at hv
  rcases Nat.lt_or_ge j l.length with x | x
  · exact x
  · rw [List.getElem?_eq_none x] at hv; cases hv

include ok hr in
theorem buildSlice_ok {t : TypeId} {len : Nat} {ps ps' : List (Nat × Value)} {r : Rs} (hp : PR μ ps ps') (hv : buildSliceV T h t len (some ps) = some r) (hnew : NewIn μ h.next (nextOf h r)) :
    ∃ μ' h' v v' w', r = .value v h' ∧ Post P μ h w μ' h' w' ∧ VR μ' v v' ∧ (Instr.buildSlice t len ps'.toArray).run P w = .ok v' w' := by
  unfold buildSliceV at hv
  simp only at hv
  unfold buildSliceD at hv
  cases hu : T.und t with
  | none => rw [hu] at hv; cases hv
  | some d =>
    rw [hu] at hv
    cases d with
    | slice e =>
      simp only at hv
      cases hz : T.zero e with
      | none => rw [hz] at hv; cases hv
      | some z =>
        cases hsz : T.size e with
        | none => rw [hz, hsz] at hv; cases hv
        | some size =>
          rw [hz, hsz] at hv
          simp only at hv
          cases hb : (Nat.beq (cellsL z).length size && allFlat (cellsL z) && Nat.ble (len * size) 16777216) with
          | false => rw [hb] at hv; cases hv
          | true =>
            rw [hb] at hv
            simp only at hv
            rw [Bool.and_eq_true, Bool.and_eq_true] at hb
            have hb1 : (cellsL z).length = size := Nat.eq_of_beq_eq_true hb.1.1
            have hb3 : len * size ≤ 16777216 := Nat.le_of_ble_eq_true hb.2
            cases hf : fillParts (placeE size) (len * size) (PM.ofList (repeatL (cellsL z) len)) ps with
            | none => rw [hf] at hv; cases hv
            | some c =>
              rw [hf] at hv
              simp only [mkSlice, frN_eq, Option.some.injEq] at hv
              subst hv
              obtain ⟨_, _, _, hc⟩ := ok.zero hz
              have hzs : z.cells.size = size := by have := (VR.of_closed (μ := μ) hc).cells.1; simp at this; omega
              have hcr := CR.ofList (zeros_ok (μ := μ) (n := len) hc)
              rw [repeatL_length, hb1, Array.toArray_toList] at hcr
              simp only [hzs] at hcr
              obtain ⟨cs', h1, h2⟩ := fill_ok hf hp hcr
              have hd := fillParts_dom hf (fun j v hv => by have := ofList_dom _ j v hv; rwa [repeatL_length, hb1] at this)
              obtain ⟨μ', h3, h4⟩ := mkSlice_ok (w := w) hr (ok.tsize hsz) h2 (Nat.le_refl len) (newIn_alloc hnew) hd
              refine ⟨μ', _, _, _, _, rfl, h3, h4, ?_⟩
              have e1 : (fun i => some (i * size, size)) = placeE size := rfl
              simp only [Instr.buildSlice, Sem.run_bind, run_und ok hu, Result.andThen_ok, run_size ok hsz]
              rw [if_neg (by omega), e1]
              by_cases e0 : len * size = 0
              · have earr : (Array.range (len * size)).map ((#[] : Array Value)[· % (#[] : Array Value).size]!) = (Array.range (len * size)).map (z.cells[· % size]!) := by simp [e0]
                rw [if_pos e0]
                simp only [Sem.run_bind, Sem.run_pure, Result.andThen_ok, earr, h1, Go.newRow, run_newObj]
              · rw [if_neg e0]
                simp only [Sem.run_bind, run_zero ok hz, Sem.run_pure, Result.andThen_ok, hzs, h1, Go.newRow, run_newObj]
    | _ => simp only at hv; cases hv

theorem wrap_small {n : Nat} (hn : n ≤ 2097152) : IntKind.i64.wrap (n : Int) = n := IntWalk.i64_in _ (by omega)

include ok hr in
theorem makeSlice_ok {t : TypeId} {x y x' y' : Value} {r : Rs} (hx : VR μ x x') (hy : VR μ y y') (hv : makeSliceV T h t (some x) (some y) = some r) (hnew : NewIn μ h.next (nextOf h r)) :
    ∃ μ' h' v v' w', r = .value v h' ∧ Post P μ h w μ' h' w' ∧ VR μ' v v' ∧ (Instr.makeSlice t x' y').run P w = .ok v' w' := by
  unfold makeSliceV at hv
  split at hv
  · rename_i k1 l k2 c he1 he2
    cases he1; cases he2
    cases hx; cases hy
    unfold makeSliceD at hv
    cases hu : T.und t with
    | none => rw [hu] at hv; cases hv
    | some d =>
      rw [hu] at hv
      cases d with
      | slice e =>
        simp only at hv
        cases hi : T.types.get e with
        | none => rw [hi] at hv; cases hv
        | some i =>
          rw [hi] at hv
          cases l with
          | negSucc _ => cases hv
          | ofNat l =>
          cases c with
          | negSucc _ => cases hv
          | ofNat c =>
          simp only at hv
          cases hz : i.zero with
          | none => rw [hz] at hv; cases hv
          | some z =>
            rw [hz] at hv
            simp only at hv
            cases hb : (Nat.beq (cellsL z).length i.size && allFlat (cellsL z) && Nat.ble l c && Nat.ble c 2097152 && Nat.ble i.bytes 4096) with
            | false => rw [hb] at hv; cases hv
            | true =>
              rw [hb] at hv
              simp only [frN_eq, mkSlice, Option.some.injEq] at hv
              subst hv
              simp only [Bool.and_eq_true] at hb
              have hb1 : (cellsL z).length = i.size := Nat.eq_of_beq_eq_true hb.1.1.1.1
              have hb2 : l ≤ c := Nat.le_of_ble_eq_true hb.1.1.2
              have hb3 : c ≤ 2097152 := Nat.le_of_ble_eq_true hb.1.2
              have hb4 : i.bytes ≤ 4096 := Nat.le_of_ble_eq_true hb.2
              have hzT : T.zero e = some z := by simp [Tab.zero, hi, hz]
              have hsT : T.size e = some i.size := by simp [Tab.size, hi]
              obtain ⟨info, hinfo, hie⟩ := ok.info hi
              obtain ⟨_, _, _, hc⟩ := ok.zero hzT
              have hzs : z.cells.size = i.size := by have := (VR.of_closed (μ := μ) hc).cells.1; simp at this; omega
              have hcr := CR.ofList (zeros_ok (μ := μ) (n := c) hc)
              rw [repeatL_length, hb1, Array.toArray_toList] at hcr
              simp only [hzs] at hcr
              have hd : ∀ j v, (PM.ofList (repeatL (cellsL z) c)).get j = some v → j < c * i.size := fun j v hv => by have := ofList_dom _ j v hv; rwa [repeatL_length, hb1] at this
              obtain ⟨μ', h3, h4⟩ := mkSlice_ok (w := w) hr (ok.tsize hsT) hcr hb2 (newIn_alloc hnew) hd
              refine ⟨μ', _, _, _, _, rfl, h3, h4, ?_⟩
              have ebytes : info.bytes = i.bytes := by rw [hie]; rfl
              have hmul : (i.bytes : Int) * (c : Int) ≤ 2 ^ 48 := by
                have : i.bytes * c ≤ 4096 * 2097152 := Nat.mul_le_mul hb4 hb3
                have h2 : ((i.bytes * c : Nat) : Int) ≤ ((4096 * 2097152 : Nat) : Int) := Int.ofNat_le.2 this
                rw [Int.natCast_mul] at h2
                omega
              simp only [Instr.makeSlice, Sem.run_bind, run_und ok hu, Result.andThen_ok, asInt, asIntOf, Sem.run_pure, typeInfo, run_program, hinfo, Int.ofNat_eq_natCast,
                wrap_small hb3, wrap_small (Nat.le_trans hb2 hb3), ebytes]
              rw [if_neg (by simp; omega)]
              simp only [Sem.run_bind, run_askRoom, Result.andThen_ok, Int.toNat_natCast, run_size ok hsT]
              by_cases e0 : c * i.size = 0
              · have earr : (Array.range (c * i.size)).map ((#[] : Array Value)[· % (#[] : Array Value).size]!) = (Array.range (c * i.size)).map (z.cells[· % i.size]!) := by simp [e0]
                rw [if_pos e0]
                simp only [Sem.run_bind, Sem.run_pure, Result.andThen_ok, earr, Go.newRow, run_newObj]
              · rw [if_neg e0]
                simp only [Sem.run_bind, run_zero ok hzT, Sem.run_pure, Result.andThen_ok, hzs, Go.newRow, run_newObj]
      | _ => simp only at hv; cases hv
  · cases hv
end
end Go.AE

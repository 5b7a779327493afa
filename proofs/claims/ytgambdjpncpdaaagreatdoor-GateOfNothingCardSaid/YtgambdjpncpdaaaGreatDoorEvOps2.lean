/- What the evaluator computes of one operation, the model computes: loads, stores, new variables. -/
import Derived.Test.YtgambdjpncpdaaaGreatDoorEvOps
import Derived.Laws.IdiomCopy
namespace Go.AE

section
variable {P : Program} {T : Tab} (ok : TabOk P T) {μ : Mu} {h : Mem} {w : World} (hr : HR P μ h w)

theorem ptr_inv {a : Addr} {x : Value} (hx : VR μ (.pointer (some a)) x) : a.spot = none ∧ ∃ L, μ a.block = some L ∧ x = .pointer (some ⟨L.blk, L.shift + a.off, none⟩) := by
  cases hx with
  | ptr id o L hl => exact ⟨rfl, L, hl, rfl⟩

/-- Cells that are known. -/
theorem row_of {L : Loc} {ety size : Nat} {c : PM Value} {n off : Nat} {l : List Value} (ho : OR P μ L (.cells ety size c) w) (hrow : c.row n off = some l) :
    ∃ l', LR μ l l' ∧ ∀ j v, l'[j]? = some v → w.cell? ((⟨L.blk, L.shift + off, none⟩ : Addr).add j) = some v := by
  obtain ⟨_, _, _, cs, e, fr, h3, h4, h5, h6⟩ := ho
  obtain ⟨h7, h8⟩ := PM.row_spec _ _ _ _ hrow
  refine ⟨(cs.toList.drop (L.shift + off)).take n, ⟨?_, fun i v v' hv hv' => ?_⟩, fun j v hv => ?_⟩
  · rcases Nat.eq_zero_or_pos n with rfl | hn
    · simp [h7]
    · have hlast : l[n - 1]? = some l[n - 1] := List.getElem?_eq_getElem (by omega)
      have h9 := h8 (n - 1) (by omega)
      rw [hlast] at h9
      obtain ⟨h10, _⟩ := h6 _ _ h9
      simp only [List.length_take, List.length_drop, Array.length_toList]
      omega
  · have hi : i < n := by
      rcases Nat.lt_or_ge i n with x | x
      · exact x
      · rw [List.getElem?_eq_none (by omega)] at hv; cases hv
    have h9 := h8 i hi
    rw [hv] at h9
    obtain ⟨_, u, h10, h11⟩ := h6 _ _ h9
    rw [List.getElem?_take, if_pos hi, List.getElem?_drop, Array.getElem?_toList] at hv'
    rw [show L.shift + off + i = L.shift + (off + i) by omega, h10] at hv'
    cases hv'
    exact h11
  · rw [List.getElem?_take] at hv
    split at hv
    · rw [List.getElem?_drop, Array.getElem?_toList] at hv
      rw [add_none, cell_at _ h3]
      exact hv
    · cases hv

include ok hr in
theorem loadAt_ok {t : TypeId} {a : Addr} {v x : Value} (hx : VR μ (.pointer (some a)) x) (hv : loadAt T h t a = some v) :
    ∃ a' v', x = .pointer (some a') ∧ VR μ v v' ∧ (loadVar t a').run P w = .ok v' w := by
  obtain ⟨hs, L, hl, rfl⟩ := ptr_inv hx
  unfold loadAt at hv
  rw [hs] at hv
  cases hg : h.bs.get a.block with
  | none => rw [hg] at hv; cases hv
  | some ob =>
    rw [hg] at hv
    cases ob with
    | map es cl => cases hv
    | siter _ _ => cases hv
    | miter _ _ _ _ => cases hv
    | cells ety size c =>
      simp only at hv
      obtain ⟨L', hl', ho⟩ := hr.dom _ _ hg
      rw [hl] at hl'; cases hl'
      refine ⟨⟨L.blk, L.shift + a.off, none⟩, ?_⟩
      unfold loadCells at hv
      cases ha : T.agg t with
      | none => rw [ha] at hv; cases hv
      | some b =>
        rw [ha] at hv
        cases b with
        | true =>
          cases hz : T.size t with
          | none => rw [hz] at hv; cases hv
          | some n =>
            rw [hz] at hv
            simp only at hv
            cases hrow : c.row n a.off with
            | none => rw [hrow] at hv; cases hv
            | some l =>
              rw [hrow] at hv
              cases hv
              obtain ⟨l', h1, h2⟩ := row_of ho hrow
              refine ⟨.agg l'.toArray, rfl, VR.agg_mk (by simpa using h1), ?_⟩
              have hn : l'.length = n := by rw [← h1.1]; exact (PM.row_spec _ _ _ _ hrow).1
              have h3 := run_loadCells_list (P := P) w _ l' h2
              rw [hn] at h3
              unfold loadVar
              simp only [Sem.run_bind, run_isAgg ok ha, Result.andThen_ok, if_true, run_size ok hz, h3, Sem.run_pure]
        | false =>
          simp only at hv
          obtain ⟨_, _, _, cs, e, fr, h3, h4, h5, h6⟩ := ho
          obtain ⟨_, v', h7, h8⟩ := h6 _ _ hv
          refine ⟨v', rfl, h8, ?_⟩
          unfold loadVar
          have hc := cell_at (w := w) (L.shift + a.off) h3
          rw [h7] at hc
          simp only [Sem.run_bind, run_isAgg ok ha, Result.andThen_ok, Bool.false_eq_true, if_false, run_load, hc]

/-- A row of cells is written. -/
theorem run_storeCells {B : Nat} {e : TypeId} {fr : Nat × Nat} : ∀ (vs : List Value) (x i : Nat) (cs : Array Value) (w : World), w.heap[B]? = some (.cells cs e fr) →
    x + i + vs.length ≤ cs.size → (∀ v ∈ vs, v.oneCell' = true) → (∀ j, j < vs.length → ¬ (fr.1 ≤ x + i + j ∧ x + i + j < fr.2)) →
    ∃ w' cs', (storeCells ⟨B, x, none⟩ vs i).run P w = .ok () w' ∧ w'.heap[B]? = some (.cells cs' e fr) ∧ cs'.size = cs.size ∧
      (∀ j, cs'[j]? = if x + i ≤ j ∧ j < x + i + vs.length then vs[j - (x + i)]? else cs[j]?) ∧ (∀ k, k ≠ B → w'.heap[k]? = w.heap[k]?) ∧
      w'.heap.size = w.heap.size ∧ w'.os = w.os ∧ w'.tape = w.tape ∧ w'.output = w.output
  | [], x, i, cs, w, hB, hx, h1, hf => by
    refine ⟨w, cs, rfl, hB, rfl, fun j => ?_, fun _ _ => rfl, rfl, rfl, rfl, rfl⟩
    rw [if_neg (by simp only [List.length_nil]; omega)]
  | v :: vs, x, i, cs, w, hB, hx, h1, hf => by
    simp only [List.length_cons] at hx hf
    have hv := h1 v (List.mem_cons_self ..)
    have hc := cell_at (w := w) (x + i) hB
    have hlt : x + i < cs.size := by omega
    rw [Array.getElem?_eq_getElem hlt] at hc
    have hfz := frozen_at (w := w) (x + i) hB
    have hz : w.frozen? ⟨B, x + i, none⟩ = false := by
      rw [hfz]
      have := hf 0 (by omega)
      simp only [Nat.add_zero] at this
      rw [Bool.eq_false_iff]
      simp only [ne_eq, Bool.and_eq_true, decide_eq_true_eq]
      exact this
    have hB' : (w.setCell ⟨B, x + i, none⟩ v).heap[B]? = some (.cells (cs.setIfInBounds (x + i) v) e fr) := by
      simp [World.setCell, Array.getElem?_modify, hB]
    obtain ⟨w', cs', hrun, h2, h3, h4, h5, h6, h7, h8, h9⟩ := run_storeCells vs x (i + 1) _ (w.setCell ⟨B, x + i, none⟩ v) hB' (by simp; omega)
      (fun u hu => h1 u (List.mem_cons_of_mem _ hu)) (fun j hj => by have := hf (j + 1) (by omega); rwa [show x + i + (j + 1) = x + (i + 1) + j by omega] at this)
    refine ⟨w', cs', ?_, h2, by simpa using h3, fun j => ?_, fun k hk => (h5 k hk).trans ?_, by simpa [World.setCell] using h6, h7, h8, h9⟩
    · unfold storeCells
      rw [Sem.run_bind, add_none, run_store P w _ v .plain hv, hc]
      simp only [hz, Bool.false_eq_true, if_false, Result.andThen_ok]
      exact hrun
    · rw [h4 j]
      simp only [List.length_cons]
      by_cases e1 : j = x + i
      · subst e1
        rw [if_neg (by omega), if_pos (by omega)]
        simp [hlt]
      · by_cases e2 : x + (i + 1) ≤ j ∧ j < x + (i + 1) + vs.length
        · rw [if_pos e2, if_pos (by omega)]
          obtain ⟨q, rfl⟩ : ∃ q, j = x + (i + 1) + q := ⟨j - (x + (i + 1)), by omega⟩
          rw [show x + (i + 1) + q - (x + (i + 1)) = q by omega, show x + (i + 1) + q - (x + i) = q + 1 by omega]
          simp
        · rw [if_neg e2, if_neg (by omega)]
          rw [Array.getElem?_setIfInBounds_ne (by omega)]
    · simp only [World.setCell, Array.getElem?_modify]
      rw [if_neg (by omega)]

include hr in
theorem storeRow_ok {a : Addr} {l : List Value} {h' : Mem} (hs : storeRow h a l = some h') {L : Loc} (hl : μ a.block = some L) {l' : List Value} (hl' : LR μ l l') :
    ∃ w', (storeCells ⟨L.blk, L.shift + a.off, none⟩ l').run P w = .ok () w' ∧ Post P μ h w μ h' w' := by
  unfold storeRow at hs
  cases hsp : a.spot with
  | some s => rw [hsp] at hs; cases hs
  | none =>
    rw [hsp] at hs
    cases hg : h.bs.get a.block with
    | none => rw [hg] at hs; cases hs
    | some ob =>
      rw [hg] at hs
      cases ob with
      | map es cl => cases hs
      | siter _ _ => cases hs
      | miter _ _ _ _ => cases hs
      | cells ety size c =>
        simp only at hs
        cases hb : (Nat.ble (a.off + l.length) size && allFlat l) with
        | false => rw [hb] at hs; cases hs
        | true =>
          rw [hb] at hs
          cases hs
          rw [Bool.and_eq_true] at hb
          obtain ⟨hb1, hb2⟩ := hb
          have hb1 : a.off + l.length ≤ size := Nat.le_of_ble_eq_true hb1
          obtain ⟨L', hl2, ho⟩ := hr.dom _ _ hg
          rw [hl] at hl2; cases hl2
          obtain ⟨h0, h1, h2, cs, e, fr, h3, h4, h5, h6⟩ := ho
          have hlen := hl'.1
          obtain ⟨w', cs', hrun, g2, g3, g4, g5, g6, g7, g8, g9⟩ := run_storeCells (P := P) l' (L.shift + a.off) 0 cs w h3 (by omega)
            (fun v hv => by
              obtain ⟨i, hi, rfl⟩ := List.mem_iff_getElem.1 hv
              have hi2 : i < l.length := by omega
              exact (hl'.2 i l[i] _ (List.getElem?_eq_getElem hi2) (List.getElem?_eq_getElem hi)).flat (allFlat_get hb2 (List.getElem_mem hi2)))
            (fun j hj => by have := h5 (a.off + j) (by omega); rwa [show L.shift + a.off + 0 + j = L.shift + (a.off + j) by omega])
          refine ⟨w', hrun, Post.write hr hg hl g6 g5 g7 g8 g9 ⟨h0, h1, h2, cs', e, fr, g2, by omega, h5, fun i v hv => ?_⟩⟩
          rw [PM.fill_get] at hv
          by_cases hi : a.off ≤ i ∧ i < a.off + l.length
          · rw [if_pos hi] at hv
            refine ⟨by omega, ?_⟩
            obtain ⟨v', k1, k2⟩ := hl'.get hv
            refine ⟨v', ?_, k2⟩
            rw [g4, if_pos (by omega), show L.shift + i - (L.shift + a.off + 0) = i - a.off by omega]
            exact k1
          · rw [if_neg hi] at hv
            obtain ⟨k1, v', k2, k3⟩ := h6 i v hv
            refine ⟨k1, v', ?_, k3⟩
            rw [g4, if_neg (by omega)]
            exact k2

include ok hr in
theorem storeV_ok {t : TypeId} {x y x' y' : Value} {r : Rs} (hx : VR μ x x') (hy : VR μ y y') (hs : storeV T h t (some x) (some y) = some r) :
    ∃ h' w', r = .value bad h' ∧ Post P μ h w μ h' w' ∧ (Instr.storeAt t x' y').run P w = .ok () w' := by
  unfold storeV at hs
  split at hs
  · rename_i a v he1 he2
    cases he1; cases he2
    obtain ⟨hsp, L, hl, rfl⟩ := ptr_inv hx
    cases hz : T.size t with
    | none => rw [hz] at hs; cases hs
    | some n =>
      rw [hz] at hs
      simp only at hs
      cases hb : Nat.beq (cellsL y).length n with
      | false => rw [hb] at hs; cases hs
      | true =>
        rw [hb] at hs
        simp only at hs
        have hn : (cellsL y).length = n := Nat.eq_of_beq_eq_true hb
        cases hrow : storeRow h a (cellsL y) with
        | none => rw [hrow] at hs; cases hs
        | some h' =>
          rw [hrow] at hs
          cases hs
          have hc := hy.cells
          obtain ⟨w', hrun, hp⟩ := storeRow_ok (w := w) hr hrow hl hc
          refine ⟨h', w', rfl, hp, ?_⟩
          have hsz : y'.cells.size = n := by have := hc.1; simp at this; omega
          simp only [Instr.storeAt, Instr.sureAddr, storeVar, Sem.run_bind, Sem.run_pure, Result.andThen_ok, run_size ok hz, hsz, ne_eq, not_true, if_false]
          simpa using hrun
  · cases hs

theorem ofList_or {ety : TypeId} {e : TypeId} {L : Loc} {l l' : List Value} {w' : World} (hl : LR μ l l') (hz : tsize P ety = some L.esz) (hs : L.shift = 0) (hext : L.ext = l.length)
    (hb : w'.heap[L.blk]? = some (.cells l'.toArray e)) : OR P μ L (.cells ety l.length (PM.ofList l)) w' := by
  refine ⟨.inl hs, hz, by omega, l'.toArray, e, (0, 0), hb, by simp [hs, hext, hl.1], fun i _ => by simp, fun i v hv => ?_⟩
  rw [PM.ofList_get] at hv
  obtain ⟨v', h1, h2⟩ := hl.get hv
  refine ⟨?_, v', by simpa [hs] using h1, h2⟩
  rcases Nat.lt_or_ge i l.length with x | x
  · exact x
  · rw [List.getElem?_eq_none x] at hv; cases hv

include hr in
theorem newRow_ok {ety e : TypeId} {sz : Option Nat} {l l' : List Value} {r : Rs} (hn : newRow h ety sz l = some r) (hl : LR μ l l') (hz : ∀ n, sz = some n → tsize P ety = some n) (hnew : μ h.next = none) :
    ∃ μ' h', r = .value (.pointer (some ⟨h.next, 0, none⟩)) h' ∧ Post P μ h w μ' h' { w with heap := w.heap.push (.cells l'.toArray e) } ∧
      VR μ' (.pointer (some ⟨h.next, 0, none⟩)) (.pointer (some ⟨w.heap.size, 0, none⟩)) := by
  unfold newRow at hn
  cases sz with
  | none => cases hn
  | some n =>
  replace hz := hz n rfl
  cases hf : allFlat l with
  | false => rw [hf] at hn; cases hn
  | true =>
    rw [hf] at hn
    simp only [frN_eq, Option.some.injEq] at hn
    subst hn
    let L : Loc := ⟨w.heap.size, 0, l.length, n, .empty, []⟩
    refine ⟨μ.add h.next L, _, rfl, Post.alloc hr hnew L _ _ rfl (ofList_or (e := e) (hl.mono (Mu.add_ext L hnew)) hz rfl rfl (by simp [L])), ?_⟩
    have := VR.ptr (μ := μ.add h.next L) h.next 0 L (Mu.add_same _ _)
    simpa [L] using this
end
end Go.AE

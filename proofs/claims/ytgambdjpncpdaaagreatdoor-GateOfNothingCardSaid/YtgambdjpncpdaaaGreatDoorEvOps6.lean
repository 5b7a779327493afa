/- What the evaluator computes of one operation, the model computes: conversions, slices, maps. -/
import Derived.Test.YtgambdjpncpdaaaGreatDoorEvOps5
import Derived.Lib.Strings
namespace Go.AE

section
variable {P : Program} {T : Tab} (ok : TabOk P T) {μ : Mu} {h : Mem} {w : World} (hr : HR P μ h w)

/- slices -/
theorem bound_ok {v v' : Value} {y i : Nat} (hx : VR μ v v') (hb : boundA y v = some i) (y' : Nat) (hy : y ≤ y') (code : BoundsCode) :
    i ≤ y ∧ (Instr.sliceBound v' y' code).run P w = .ok i w := by
  unfold boundA at hb
  split at hb
  · rename_i k j
    cases hx
    cases hc : Nat.ble j y with
    | false => rw [hc] at hb; cases hb
    | true =>
      rw [hc] at hb
      simp only [frN_eq, Option.some.injEq] at hb
      subst hb
      have hle := Nat.le_of_ble_eq_true hc
      refine ⟨hle, ?_⟩
      simp only [Instr.sliceBound, Sem.run_bind, asIntOf, Sem.run_pure, Result.andThen_ok, Int.ofNat_eq_natCast]
      rw [if_pos ⟨Int.natCast_nonneg _, Int.ofNat_le.2 (Nat.le_trans hle hy)⟩]
      simp
  · cases hb

/-- A bound that may be left out. -/
def OV (μ : Mu) : Option Value → Option Value → Prop
  | none, none => True
  | some v, some v' => VR μ v v'
  | _, _ => False

theorem ext_list (s : ByteArray) (l u : Nat) : ofTxt (((txt s).take u).drop l) = .string (s.extract l u) := by
  have e : (⟨⟨((txt s).take u).drop l⟩⟩ : ByteArray) = s.extract l u := by
    apply ByteArray.ext
    apply Array.ext'
    rw [Lib.extract_data]
    show ((txt s).take u).drop l = _
    rw [List.drop_take]; rfl
  unfold ofTxt
  rw [e]

include ok in
theorem sliceStr_ok {t : TypeId} {s : ByteArray} {lo hi lo' hi' : Option Value} (hlo : OV μ lo lo') (hhi : OV μ hi hi') (hu : T.und t = some .string) {v : Value}
    (hv : cutS (txt s) lo (boundO (txt s).length (txt s).length hi) = some v) : RunV P w (Instr.slice t (.string s) lo' hi' none) v := by
  unfold cutS at hv
  cases hb : boundO (txt s).length (txt s).length hi with
  | none => rw [hb] at hv; cases hv
  | some u =>
    rw [hb] at hv
    simp only at hv
    unfold cutTxt at hv
    cases hb2 : boundO u 0 lo with
    | none => rw [hb2] at hv; cases hv
    | some l =>
      rw [hb2] at hv
      simp only [Option.some.injEq] at hv
      subst hv
      rw [ext_list]
      have hH : ∀ (code : BoundsCode), (match hi' with | some v => Instr.sliceBound v s.size code | none => pure s.size : Sem Nat).run P w = .ok u w := by
        intro code
        cases hi with
        | none =>
          cases hi' with
          | none => rw [txt_size] at hb; cases hb; rfl
          | some _ => exact hhi.elim
        | some x =>
          cases hi' with
          | none => exact hhi.elim
          | some x' =>
            have := bound_ok (P := P) (w := w) (show VR μ x x' from hhi) (show boundA (txt s).length x = some u from hb) s.size (by rw [txt_size]; exact Nat.le_refl _) code
            exact this.2
      have hL : ∀ (code : BoundsCode), (match lo' with | some v => Instr.sliceBound v u code | none => pure 0 : Sem Nat).run P w = .ok l w := by
        intro code
        cases lo with
        | none =>
          cases lo' with
          | none => cases hb2; rfl
          | some _ => exact hlo.elim
        | some x =>
          cases lo' with
          | none => exact hlo.elim
          | some x' => exact (bound_ok (P := P) (w := w) (show VR μ x x' from hlo) (show boundA u x = some l from hb2) u (Nat.le_refl _) code).2
      unfold RunV Instr.slice
      simp only [Sem.run_bind, run_und ok hu, Result.andThen_ok, Option.isSome_none, Bool.false_eq_true, if_false, Instr.sliceBounds, Sem.run_pure]
      cases hi' with
      | none =>
        have := hH .sliceAlen
        simp only at this
        cases lo' with
        | none => have h2 := hL .sliceB; simp only [Sem.run_pure] at this h2; cases this; cases h2; simp
        | some x' => have h2 := hL .sliceB; simp only [Sem.run_pure] at this h2; cases this; simp [h2]
      | some y' =>
        have := hH .sliceAlen
        simp only at this
        cases lo' with
        | none => have h2 := hL .sliceB; simp only [Sem.run_pure] at h2; cases h2; simp [this]
        | some x' => have h2 := hL .sliceB; simp only at h2; simp [this, h2]

theorem addO_some (a : Addr) (n : Nat) : addO n (some a) = some ⟨a.block, a.off + n, a.spot⟩ := rfl

/-- The bounds of a slice of a slice. -/
theorem bounds_ok (sl : Bool) {len cap cap' : Nat} {lo hi mx lo' hi' mx' : Option Value} (hlo : OV μ lo lo') (hhi : OV μ hi hi') (hmx : OV μ mx mx') {m u l : Nat}
    (hle : cap ≤ cap') (hlen : len ≤ cap) (hm : boundO cap cap mx = some m) (hu : boundO m len hi = some u) (hl : boundO u 0 lo = some l) (hfull : mx.isSome = true → hi.isSome = true) :
    ∃ m', (Instr.sliceBounds sl len cap' lo' hi' mx').run P w = .ok (l, u, m') w ∧ l ≤ u ∧ m ≤ m' ∧ m' ≤ cap' ∧ (mx = none → m' = cap') ∧ u ≤ m := by
  have hlu : l ≤ u := by
    cases lo with
    | none => cases hl; exact Nat.zero_le _
    | some x =>
      cases lo' with
      | none => exact hlo.elim
      | some x' => exact (bound_ok (P := P) (w := w) (show VR μ x x' from hlo) (show boundA u x = some l from hl) u (Nat.le_refl _) .sliceB).1
  have hL : ∀ code, (match lo' with | some v => Instr.sliceBound v u code | none => pure 0 : Sem Nat).run P w = .ok l w := by
    intro code
    cases lo with
    | none =>
      cases lo' with
      | none => cases hl; rfl
      | some _ => exact hlo.elim
    | some x =>
      cases lo' with
      | none => exact hlo.elim
      | some x' => exact (bound_ok (P := P) (w := w) (show VR μ x x' from hlo) (show boundA u x = some l from hl) u (Nat.le_refl _) code).2
  cases mx with
  | none =>
    cases mx' with
    | some _ => exact hmx.elim
    | none =>
      cases hm
      cases hi with
      | none =>
        cases hi' with
        | some _ => exact hhi.elim
        | none =>
          cases hu
          refine ⟨cap', ?_, hlu, hle, Nat.le_refl _, fun _ => rfl, hlen⟩
          have h2 := hL .sliceB
          unfold Instr.sliceBounds
          cases lo' with
          | none => simp only [Sem.run_pure] at h2; cases h2; simp
          | some x' => simp only at h2; simp [h2]
      | some y =>
        cases hi' with
        | none => exact hhi.elim
        | some y' =>
          have h3 := bound_ok (P := P) (w := w) (show VR μ y y' from hhi) (show boundA cap y = some u from hu) cap' hle (if sl then .sliceAcap else .sliceAlen)
          refine ⟨cap', ?_, hlu, hle, Nat.le_refl _, fun _ => rfl, h3.1⟩
          have h2 := hL .sliceB
          unfold Instr.sliceBounds
          cases lo' with
          | none => simp only [Sem.run_pure] at h2; cases h2; simp [h3.2]
          | some x' => simp only at h2; simp [h2, h3.2]
  | some z =>
    cases mx' with
    | none => exact hmx.elim
    | some z' =>
      have h4 := bound_ok (P := P) (w := w) (show VR μ z z' from hmx) (show boundA cap z = some m from hm) cap' hle (if sl then .slice3Acap else .slice3Alen)
      cases hi with
      | none => have := hfull rfl; cases this
      | some y =>
        cases hi' with
        | none => exact hhi.elim
        | some y' =>
          have h3 := bound_ok (P := P) (w := w) (show VR μ y y' from hhi) (show boundA m y = some u from hu) m (Nat.le_refl _) .slice3B
          refine ⟨m, ?_, hlu, Nat.le_refl _, by omega, (fun h => by cases h), h3.1⟩
          have h2 := hL .slice3C
          unfold Instr.sliceBounds
          cases lo' with
          | none => simp only [Sem.run_pure] at h2; cases h2; simp [h3.2, h4.2]
          | some x' => simp only at h2; simp [h2, h3.2, h4.2]

include ok hr in
theorem row_size {a : Addr} {e n' : Nat} (hrow : rowAt h a = some (e, n')) {L : Loc} (hl : μ a.block = some L) {n : Nat} (hz : T.size e = some n) : n = L.esz ∧ n' ≤ L.ext := by
  unfold rowAt at hrow
  split at hrow
  · rename_i hg
    cases hrow
    obtain ⟨L', hl', ho⟩ := hr.dom _ _ hg
    rw [hl] at hl'
    cases hl'
    obtain ⟨_, h1, h2, _⟩ := ho
    have := ok.tsize hz
    rw [h1] at this
    cases this
    exact ⟨rfl, h2⟩
  · cases hrow
include ok hr in
theorem baseOk_size {a : Addr} {e : TypeId} (hb : baseOk h e (some a) = true) {L : Loc} (hl : μ a.block = some L) {n : Nat} (hz : T.size e = some n) : n = L.esz := by
  unfold baseOk etyIs at hb
  simp only at hb
  cases hrow : rowAt h a with
  | none => rw [hrow] at hb; cases hb
  | some p =>
    obtain ⟨e', n'⟩ := p
    rw [hrow] at hb
    have : e = e' := Nat.eq_of_beq_eq_true hb
    subst this
    exact (row_size ok hr hrow hl hz).1
include ok hr in
theorem arrOk_size {a : Addr} {e top : Nat} (hb : arrOk e top (rowAt h a) = true) {L : Loc} (hl : μ a.block = some L) {n : Nat} (hz : T.size e = some n) : n = L.esz ∧ top ≤ L.ext := by
  unfold arrOk at hb
  cases hrow : rowAt h a with
  | none => rw [hrow] at hb; cases hb
  | some p =>
    obtain ⟨e', n'⟩ := p
    rw [hrow] at hb
    simp only [Bool.and_eq_true] at hb
    have : e = e' := Nat.eq_of_beq_eq_true hb.1
    subst this
    have h2 := Nat.le_of_ble_eq_true hb.2
    have h3 := row_size ok hr hrow hl hz
    exact ⟨h3.1, by omega⟩

include ok hr in
theorem slice_ok {t : TypeId} {x x' : Value} {lo hi mx lo' hi' mx' : Option Value} (hx : VR μ x x') (hlo : OV μ lo lo') (hhi : OV μ hi hi') (hmx : OV μ mx mx') {v : Value}
    (hv : sliceV T h t (some x) (some lo) (some hi) (some mx) = some v) : ∃ v', VR μ v v' ∧ RunV P w (Instr.sliceAt t x' lo' hi' mx') v' := by
  unfold sliceV at hv
  simp only at hv
  unfold sliceD at hv
  cases hu : T.und t with
  | none => rw [hu] at hv; cases hv
  | some d =>
    rw [hu] at hv
    cases d with
    | string =>
      simp only at hv
      split at hv
      · rename_i s
        cases hx
        cases mx' with
        | some _ => exact hmx.elim
        | none =>
          have h1 := sliceStr_ok (P := P) (w := w) ok hlo hhi hu hv
          refine ⟨v, ?_, ?_⟩
          · unfold cutS at hv
            split at hv
            · unfold cutTxt at hv
              split at hv
              · cases hv; exact .string _
              · cases hv
            · cases hv
          · unfold RunV Instr.sliceAt
            simp only [Sem.run_bind, run_und ok hu, Result.andThen_ok]
            exact h1
      · cases hv
    | slice e =>
      simp only at hv
      split at hv
      · rename_i a len cap n hz
        cases hbo : baseOk h e a with
        | false => rw [hbo] at hv; cases hv
        | true =>
        rw [hbo] at hv
        simp only at hv
        unfold cutM at hv
        cases hm : boundO cap cap mx with
        | none => rw [hm] at hv; cases hv
        | some m =>
          rw [hm] at hv
          simp only at hv
          have hfull : mx.isSome = true → hi.isSome = true := by
            intro hs
            rw [hs] at hv
            cases hi with
            | none => cases hv
            | some _ => rfl
          have hv : cutRow a n m lo (boundO m len hi) = some v := by
            revert hv
            cases mx.isSome <;> cases hi <;> intro hv <;> first | exact hv | (cases hv)
          unfold cutRow at hv
          cases hb : boundO m len hi with
          | none => rw [hb] at hv; cases hv
          | some u =>
            rw [hb] at hv
            simp only [cutSl] at hv
            cases hb2 : boundO u 0 lo with
            | none => rw [hb2] at hv; cases hv
            | some l =>
              rw [hb2] at hv
              simp only [Option.some.injEq] at hv
              subst hv
              have key : ∀ (b : Option Addr) (cap' : Nat), x' = .slice b len cap' → cap ≤ cap' → len ≤ cap → ∃ m', RunV P w (Instr.sliceAt t x' lo' hi' mx') (.slice (if m' = l then b else b.map (·.add (l * n))) (u - l) (m' - l)) ∧
                  l ≤ u ∧ m ≤ m' ∧ m' ≤ cap' ∧ u ≤ m := by
                intro b cap' he hcap hlen
                obtain ⟨m', h1, h2, h3, h4, h5, h6⟩ := bounds_ok (P := P) (w := w) true hlo hhi hmx hcap hlen hm hb hb2 hfull
                refine ⟨m', ?_, h2, h3, h4, h6⟩
                subst he
                unfold RunV Instr.sliceAt
                simp only [Sem.run_bind, run_und ok hu, Result.andThen_ok, Instr.slice, h1, run_size ok hz, Sem.run_pure]
              cases a with
              | none =>
                obtain ⟨h1, h2, rfl⟩ := slice_none_inv hx
                subst h1 h2
                obtain ⟨m', h3, h4, h5, h6, h7⟩ := key none 0 rfl (Nat.le_refl _) (Nat.le_refl _)
                obtain rfl : m' = 0 := by omega
                obtain rfl : m = 0 := by omega
                obtain rfl : u = 0 := by omega
                obtain rfl : l = 0 := by omega
                exact ⟨_, .sliceNil, by simpa using h3⟩
              | some a =>
                obtain ⟨hs, hle, b, c', rfl, hc, hc0⟩ := slice_some_inv hx
                obtain ⟨m', h3, h4, h5, h6, h7⟩ := key (some b) c' rfl hc hle
                refine ⟨_, ?_, h3⟩
                obtain ⟨ab, ao, as⟩ := a
                simp only at hs
                subst hs
                rw [addO_some]
                by_cases hml : m' = l
                · rw [if_pos hml]
                  obtain rfl : u = l := by omega
                  obtain rfl : m = u := by omega
                  rw [hml, Nat.sub_self]
                  exact .sliceEnd _ _ _
                · rw [if_neg hml]
                  cases hx with
                  | sliceEnd => omega
                  | slice _ _ _ _ _ L hl _ _ hex =>
                    show VR μ (.slice (some ⟨ab, ao + l * n, none⟩) (u - l) (m - l)) (.slice (some ((⟨L.blk, L.shift + ao, none⟩ : Addr).add (l * n))) (u - l) (m' - l))
                    rw [add_none, Nat.add_assoc]
                    refine .slice _ _ _ _ _ L hl (by omega) (by omega) ?_
                    have hes := baseOk_size ok hr hbo hl hz
                    rw [← hes]
                    have e1 : ao + l * n + (m' - l) * n = ao + m' * n := by
                      rw [Nat.add_assoc, ← Nat.add_mul, Nat.add_sub_cancel' (by omega)]
                    rw [← hes] at hex
                    rw [e1]
                    exact Nat.le_trans (Nat.add_le_add_left (Nat.mul_le_mul_right _ h6) _) hex
      · cases hv
    | array n e =>
      simp only at hv
      split at hv
      · rename_i a sz hz
        obtain ⟨hs, L, hl, rfl⟩ := ptr_inv hx
        cases mx' with
        | some _ => exact hmx.elim
        | none =>
        cases hao : arrOk e (a.off + n * sz) (rowAt h a) with
        | false => rw [hao] at hv; cases hv
        | true =>
        rw [hao] at hv
        simp only at hv
        unfold cutRow at hv
        cases hb : boundO n n hi with
        | none => rw [hb] at hv; cases hv
        | some u =>
          rw [hb] at hv
          simp only [cutSl] at hv
          cases hb2 : boundO u 0 lo with
          | none => rw [hb2] at hv; cases hv
          | some l =>
            rw [hb2] at hv
            simp only [Option.some.injEq] at hv
            subst hv
            obtain ⟨m', h1, h2, h3, h4, h5, h6⟩ := bounds_ok (P := P) (w := w) false hlo hhi (mx := none) (mx' := none) trivial (Nat.le_refl n) (Nat.le_refl n) rfl hb hb2 (fun h => by cases h)
            have hm : m' = n := h5 rfl
            subst hm
            obtain ⟨hes, htop⟩ := arrOk_size ok hr hao hl hz
            refine ⟨.slice (some (if m' = l then ⟨L.blk, L.shift + a.off, none⟩ else (⟨L.blk, L.shift + a.off, none⟩ : Addr).add (l * sz))) (u - l) (m' - l), ?_, ?_⟩
            · obtain ⟨ab, ao, as⟩ := a
              simp only at hs hl htop
              subst hs
              rw [addO_some]
              by_cases hml : m' = l
              · obtain rfl : u = l := by omega
                rw [hml, Nat.sub_self]
                exact .sliceEnd _ _ _
              · rw [if_neg hml]
                show VR μ (.slice (some ⟨ab, ao + l * sz, none⟩) (u - l) (m' - l)) _
                rw [add_none, Nat.add_assoc]
                refine .slice _ _ _ _ _ L hl (by omega) (Nat.le_refl _) ?_
                rw [← hes]
                have e1 : ao + l * sz + (m' - l) * sz = ao + m' * sz := by
                  rw [Nat.add_assoc, ← Nat.add_mul, Nat.add_sub_cancel' (by omega)]
                rw [e1]
                exact htop
            · unfold RunV Instr.sliceAt
              simp only [Sem.run_bind, run_und ok hu, Result.andThen_ok, Instr.sureAddr, Sem.run_pure, h1, run_size ok hz]
      · cases hv
    | _ => simp only at hv; cases hv
end
end Go.AE

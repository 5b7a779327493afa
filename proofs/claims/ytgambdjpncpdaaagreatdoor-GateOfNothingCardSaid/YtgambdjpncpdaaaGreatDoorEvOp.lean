/- What the evaluator computes of one operation, the model computes: all operations. -/
import Derived.Test.YtgambdjpncpdaaaGreatDoorEvOpsA
namespace Go.AE

theorem find_bits {fn : Func} (h1 : fn.origin = "") (h2 : fn.name = "math.Float64bits") : Extern.findNext fn = none ∧ Extern.find fn = some Extern.MathFloatBits.float64bits := by
  obtain ⟨name, origin, targs, params, resultTypes, nfree, ntmps, results, body, norace, ours, file, endLine, litNo, met, tmpNames⟩ := fn
  simp only at h1 h2
  subst h1 h2
  exact ⟨by kernel_rfl, by kernel_rfl⟩
theorem find_ofBits {fn : Func} (h1 : fn.origin = "") (h2 : fn.name = "math.Float64frombits") : Extern.findNext fn = none ∧ Extern.find fn = some Extern.MathFloatBits.float64frombits := by
  obtain ⟨name, origin, targs, params, resultTypes, nfree, ntmps, results, body, norace, ours, file, endLine, litNo, met, tmpNames⟩ := fn
  simp only at h1 h2
  subst h1 h2
  exact ⟨by kernel_rfl, by kernel_rfl⟩
theorem find_noZero {fn : Func} (h1 : fn.origin = "") (h2 : fn.name = "internal/bytealg.MakeNoZero") : Extern.findNext fn = none ∧ Extern.find fn = some (Extern.BytealgMakeNoZero.makeNoZero fn.params fn.resultTypes) := by
  obtain ⟨name, origin, targs, params, resultTypes, nfree, ntmps, results, body, norace, ours, file, endLine, litNo, met, tmpNames⟩ := fn
  simp only at h1 h2
  subst h1 h2
  exact ⟨by kernel_rfl, by kernel_rfl⟩
theorem find_indexByte {fn : Func} (h1 : fn.origin = "") (h2 : fn.name = "internal/bytealg.IndexByteString") : Extern.findNext fn = none ∧ Extern.find fn = some Extern.BytealgIndexByte.indexByte := by
  obtain ⟨name, origin, targs, params, resultTypes, nfree, ntmps, results, body, norace, ours, file, endLine, litNo, met, tmpNames⟩ := fn
  simp only at h1 h2
  subst h1 h2
  exact ⟨by kernel_rfl, by kernel_rfl⟩

section
variable {P : Program} {T : Tab} (ok : TabOk P T) {μ : Mu} {h : Mem} {w : World} (hr : HR P μ h w) {a : Act} {ρ : PM Value} (ht : TR μ ρ a.tmps)

theorem opv (hr : HR P μ h w) {s : Sem Value} {r : Rs} (hx : ∃ v v', r = .value v h ∧ VR μ v v' ∧ RunV P w s v') : OpOk P μ h w (do pure (.value (← s))) r := by
  obtain ⟨v, v', rfl, h2, h3⟩ := hx
  exact ⟨μ, v', w, .refl hr, h2, .inl (by simp only [Sem.run_bind, show s.run P w = .ok v' w from h3, Result.andThen_ok, Sem.run_pure])⟩
theorem opm {s : Sem Value} {r : Rs} (hx : ∃ μ' h' v v' w', r = .value v h' ∧ Post P μ h w μ' h' w' ∧ VR μ' v v' ∧ s.run P w = .ok v' w') : OpOk P μ h w (do pure (.value (← s))) r := by
  obtain ⟨μ', h', v, v', w', rfl, h2, h3, h4⟩ := hx
  exact ⟨μ', v', w', h2, h3, .inl (by simp only [Sem.run_bind, h4, Result.andThen_ok, Sem.run_pure])⟩
theorem opu {s : Sem Unit} {r : Rs} (hx : ∃ h' w', r = .value bad h' ∧ Post P μ h w μ h' w' ∧ s.run P w = .ok () w') : OpOk P μ h w (do s; pure .skip) r := by
  obtain ⟨h', w', rfl, h2, h3⟩ := hx
  exact ⟨μ, undef, w', h2, VR.tuple_mk .nil, .inr ⟨by simp only [Sem.run_bind, h3, Result.andThen_ok, Sem.run_pure], rfl⟩⟩

theorem some_of {α β : Type} {o : Option α} {f : Option α → Option β} {r : β} (hv : f o = some r) (hn : f none = none) : ∃ x, o = some x := by
  cases o with
  | none => rw [hn] at hv; cases hv
  | some x => exact ⟨x, rfl⟩

theorem ov_ok (ht : TR μ ρ a.tmps) {x : Option Operand} {v : Option Value} (hv : evalO ρ x = some v) : OV μ v (x.map a.eval) := by
  cases x with
  | none => cases hv; exact trivial
  | some x =>
    unfold evalO at hv
    cases he : eval x ρ with
    | none => simp only [he] at hv; cases hv
    | some u => simp only [he] at hv; cases hv; exact eval_ok ht he

theorem call_enter {f : FuncId} {fn : Func} {c : Code} {args : Array Value} (hf : P.funcs[f]? = some fn) (hb : fn.body = some c) (hn : (fn.name == "runtime.NumGoroutine") = false) :
    (callFunc f args).run P w = .ok (.enter f args) w := by
  have h1 : fn.name ≠ "runtime.NumGoroutine" := by simpa using hn
  simp [callFunc, hf, h1, hb]

include ok in
theorem callF_ok (hr : HR P μ h w) {f : FuncId} {args : List Value} {args' : Array Value} (ha : LR μ args args'.toList) {r : Rs} (hv : callF T h f args = some r) (hnew : NewIn μ h.next (nextOf h r)) :
    OpOk P μ h w (callFunc f args') r := by
  unfold callF at hv
  cases hf : T.funcs.get f with
  | none => rw [hf] at hv; cases hv
  | some fn =>
  rw [hf] at hv
  simp only at hv
  have hP := ok.funcs f fn hf
  cases hb : fn.body with
  | some c =>
    rw [hb] at hv
    simp only [callB] at hv
    cases hn : (fn.name == "runtime.NumGoroutine") with
    | true => rw [hn] at hv; cases hv
    | false =>
      rw [hn] at hv
      cases hv
      exact ⟨rfl, args', ha, call_enter hP hb hn⟩
  | none =>
    rw [hb] at hv
    simp only [callB] at hv
    unfold extOf at hv
    cases ho : (fn.origin == "") with
    | false => rw [ho] at hv; cases hv
    | true =>
    have h1 : fn.origin = "" := by simpa using ho
    rw [ho] at hv
    simp only at hv
    unfold extName at hv
    split at hv
    · rename_i h2
      have h2 : fn.name = "math.Float64bits" := by simpa using h2
      obtain ⟨e1, e2⟩ := find_bits h1 h2
      simp only [extV] at hv
      split at hv
      · rename_i b
        have := int_some hv; subst this
        obtain ⟨v', l', heq, hv1, hl⟩ := ha.cons_inv
        cases hv1
        have := hl.nil_inv; subst this
        refine ⟨μ, .int .u64 b, w, .refl hr, .int _ _, .inl ?_⟩
        rw [run_callFunc_extern hP (by rw [h2]; decide) (by simp [hb]) e1 e2]
        have : args' = #[.float .f64 b] := Array.ext' (by simpa using heq)
        rw [this]
        rfl
      · cases hv
    · rename_i h2
      have h2 : fn.name = "math.Float64frombits" := by simpa using h2
      obtain ⟨e1, e2⟩ := find_ofBits h1 h2
      simp only [extV] at hv
      split at hv
      · rename_i b
        cases hv
        obtain ⟨v', l', heq, hv1, hl⟩ := ha.cons_inv
        cases hv1
        have := hl.nil_inv; subst this
        refine ⟨μ, .float .f64 b, w, .refl hr, .float _ _, .inl ?_⟩
        rw [run_callFunc_extern hP (by rw [h2]; decide) (by simp [hb]) e1 e2]
        have : args' = #[.int .u64 (.ofNat b)] := Array.ext' (by simpa using heq)
        rw [this]
        rfl
      · cases hv
    · rename_i h2
      have h2 : fn.name = "internal/bytealg.MakeNoZero" := by simpa using h2
      obtain ⟨e1, e2⟩ := find_noZero h1 h2
      simp only [extV] at hv
      split at hv
      · rename_i n
        obtain ⟨v', l', heq, hv1, hl⟩ := ha.cons_inv
        cases hv1
        have := hl.nil_inv; subst this
        obtain ⟨μ', h', v, v', w', rfl, q2, q3, q4⟩ := noZero_ok (w := w) (ps := fn.params) ok hr hv hnew
        refine ⟨μ', v', w', q2, q3, .inl ?_⟩
        rw [run_callFunc_extern hP (by rw [h2]; decide) (by simp [hb]) e1 e2]
        have : args' = #[.int .i64 n] := Array.ext' (by simpa using heq)
        rw [this, q4]
        rfl
      · cases hv
    · rename_i h2
      have h2 : fn.name = "internal/bytealg.IndexByteString" := by simpa using h2
      obtain ⟨e1, e2⟩ := find_indexByte h1 h2
      simp only [extV] at hv
      split at hv
      · rename_i s c
        cases hc : Nat.blt c 256 with
        | false => rw [hc] at hv; cases hv
        | true =>
        rw [hc] at hv
        have hc : c < 256 := blt_lt hc
        have := int_some hv; subst this
        obtain ⟨v', l', heq, hv1, hl⟩ := ha.cons_inv
        cases hv1
        obtain ⟨v2', l2', heq2, hv2, hl2⟩ := hl.cons_inv
        cases hv2
        have := hl2.nil_inv; subst this; subst heq2
        refine ⟨μ, .int .i64 (indexB c (txt s) 0), w, .refl hr, .int _ _, .inl ?_⟩
        rw [run_callFunc_extern hP (by rw [h2]; decide) (by simp [hb]) e1 e2]
        have : args' = #[.string s, .int .u8 (.ofNat c)] := Array.ext' (by simpa using heq)
        rw [this, run_indexByte_string, indexB_ok s c hc]
        rfl
      · cases hv
    · cases hv

include ok hr in
theorem builtin_ok {b : Builtin} {ts : List TypeId} {ty : TypeId} {cs : Array Bool} {args : List Value} {args' : Array Value} (ha : LR μ args args'.toList) {r : Rs}
    (hv : builtinV T h b ts args = some r) (hnew : NewIn μ h.next (nextOf h r)) : OpOk P μ h w (builtin b ts.toArray ty cs args') r := by
  unfold builtinV at hv
  split at hv
  · -- len
    split at hv
    · rename_i t ts x xs
      obtain ⟨x', l', heq, hx, hl⟩ := ha.cons_inv
      obtain ⟨v, v', h1, h2, h3⟩ := len_ok (w := w) (t := t) (ty := ty) (ts := ts) (xs := l') ok hr hx hv
      have : args' = (x' :: l').toArray := Array.ext' (by simpa using heq)
      rw [this]
      exact opv hr ⟨v, v', h1, h2, h3⟩
    · cases hv
  · -- append
    split at hv
    · rename_i t t2 ts s x
      obtain ⟨s', l', heq, hs, hl⟩ := ha.cons_inv
      obtain ⟨x', l2, heq2, hx, hl2⟩ := hl.cons_inv
      have := hl2.nil_inv; subst this; subst heq2
      have hargs : args' = #[s', x'] := Array.ext' (by simpa using heq)
      rw [hargs]
      obtain ⟨μ', h', v, v', w', q1, q2, q3, q4⟩ := append_ok (w := w) (ty := ty) ok hr hs hx hv hnew
      refine opm ⟨μ', h', v, v', w', q1, q2, q3, ?_⟩
      rw [← q4]
      rfl
    · cases hv
  · obtain ⟨v, v', x, rest, h0, h1, h2, h3⟩ := foldV_ok (P := P) (w := w) ha hv
    exact opv hr ⟨v, v', h1, h2, by unfold RunV Builtin.min_; rw [h0]; exact h3⟩
  · obtain ⟨v, v', x, rest, h0, h1, h2, h3⟩ := foldV_ok (P := P) (w := w) ha hv
    exact opv hr ⟨v, v', h1, h2, by unfold RunV Builtin.max_; rw [h0]; exact h3⟩
  · split at hv
    · rename_i t ts d s
      obtain ⟨d', l', heq, hd, hl⟩ := ha.cons_inv
      obtain ⟨s', l2, heq2, hs, hl2⟩ := hl.cons_inv
      have := hl2.nil_inv; subst this; subst heq2
      have hargs : args' = #[d', s'] := Array.ext' (by simpa using heq)
      rw [hargs]
      obtain ⟨h', v, w', q1, q2, q3, q4⟩ := copy_ok (w := w) (t2 := t) (ty := ty) ok hr hd hs hv
      refine opm ⟨μ, h', v, v, w', q1, q2, q3, ?_⟩
      rw [← q4]
      rfl
    · cases hv
  · -- delete
    split at hv
    · rename_i t ts m k
      obtain ⟨m', l', heq, hm, hl⟩ := ha.cons_inv
      obtain ⟨k', l2, heq2, hk, hl2⟩ := hl.cons_inv
      have := hl2.nil_inv; subst this; subst heq2
      have hargs : args' = #[m', k'] := Array.ext' (by simpa using heq)
      rw [hargs]
      obtain ⟨h', v, v', w', q1, q2, q3, q4⟩ := delete_ok (w := w) (ty := ty) (ts := ts) ok hr hm hk hv
      exact opm ⟨μ, h', v, v', w', q1, q2, q3, q4⟩
    · cases hv
  · -- clear
    split at hv
    · rename_i t ts x
      obtain ⟨x', l', heq, hx, hl⟩ := ha.cons_inv
      have := hl.nil_inv; subst this
      have hargs : args' = #[x'] := Array.ext' (by simpa using heq)
      rw [hargs]
      obtain ⟨h', v, v', w', q1, q2, q3, q4⟩ := clear_ok (w := w) (ty := ty) (ts := ts) ok hr hx hv
      exact opm ⟨μ, h', v, v', w', q1, q2, q3, q4⟩
    · cases hv
  · cases hv; rfl
  · cases hv

theorem map_list (xs : Array Operand) (f : Operand → Value) : (xs.map f).toList = xs.toList.map f := Array.toList_map ..

include ok hr ht in
theorem call_ok {c : Call} {ty : TypeId} {r : Rs} (hv : callV T ρ h c (evals ρ c.args.toList) = some r) (hnew : NewIn μ h.next (nextOf h r)) :
    OpOk P μ h w (do let d ← resolve a.eval c ty; invoke d.target d.args) r := by
  cases he : evals ρ c.args.toList with
  | none => rw [he] at hv; cases hv
  | some args =>
  rw [he] at hv
  have hargs : LR μ args (c.args.map a.eval).toList := by rw [map_list]; exact evals_ok ht he
  simp only [callV] at hv
  cases hc : c.callee with
  | builtin b =>
    rw [hc] at hv
    simp only at hv
    have := builtin_ok (w := w) (ty := ty) (cs := c.args.map fun | .const _ => true | _ => false) ok hr hargs hv hnew
    rw [Array.toArray_toList] at this
    simp only [resolve, hc, invoke, pure_bind]
    exact this
  | invoke rv m => rw [hc] at hv; cases hv
  | value f =>
    rw [hc] at hv
    simp only at hv
    cases hf : eval f ρ with
    | none => rw [hf] at hv; cases hv
    | some fv =>
    rw [hf] at hv
    unfold callFn at hv
    split at hv
    · rename_i g first captured heq
      cases heq
      obtain ⟨first', captured', hfe, hl1, hl2⟩ := (eval_ok ht hf).func_inv
      have := callF_ok (w := w) ok hr (args' := first' ++ c.args.map a.eval ++ captured') (by simpa using (hl1.append hargs).append hl2) hv hnew
      simpa only [resolve, hc, hfe, Deferred.ofValue, invoke, pure_bind] using this
    · cases hv

include ht in
theorem defer_ok {c : Call} {ty : TypeId} {r : Rs} (hv : deferV ρ c (evals ρ c.args.toList) = some r) : OpOk P μ h w (do pure (.defer (← resolve a.eval c ty))) r := by
  cases he : evals ρ c.args.toList with
  | none => rw [he] at hv; cases hv
  | some args =>
  rw [he] at hv
  have hargs : LR μ args (c.args.map a.eval).toList := by rw [map_list]; exact evals_ok ht he
  simp only [deferV] at hv
  cases hc : c.callee with
  | builtin b => rw [hc] at hv; cases hv
  | invoke rv m => rw [hc] at hv; cases hv
  | value f =>
    rw [hc] at hv
    simp only at hv
    cases hf : eval f ρ with
    | none => rw [hf] at hv; cases hv
    | some fv =>
    rw [hf] at hv
    unfold deferF at hv
    split at hv
    · rename_i g first captured heq
      cases heq
      cases hv
      obtain ⟨first', captured', hfe, hl1, hl2⟩ := (eval_ok ht hf).func_inv
      refine ⟨{ target := .fn g captured', args := first' ++ c.args.map a.eval }, ⟨g, captured, captured', rfl, rfl, hl2⟩, by simpa using hl1.append hargs, ?_⟩
      simp only [resolve, hc, hfe, Deferred.ofValue, Sem.run_bind, Sem.run_pure, Result.andThen_ok]
    · cases hv

theorem nilCheck_ok (hr : HR P μ h w) {x x' : Value} (hx : VR μ x x') {r : Rs} (hv : nilCheckV h (some x) = some r) {s : Sem Next}
    (hs : ∀ v, (∀ a, v = .pointer (some a) → s = pure (.value v)) ∧ (∀ f b c, v = .func (.func f) b c → s = pure (.value v)) ∨ v ≠ x') : OpOk P μ h w s r := by
  unfold nilCheckV at hv
  split at hv
  · rename_i b heq; cases heq
    cases hv
    obtain ⟨_, L, _, rfl⟩ := ptr_inv hx
    rcases hs (.pointer (some ⟨L.blk, L.shift + b.off, none⟩)) with h1 | h1
    · have := h1.1 _ rfl
      subst this
      exact OpOk.pure hr hx rfl
    · exact absurd rfl h1
  · rename_i f b c heq; cases heq
    cases hv
    obtain ⟨b', c', rfl, _⟩ := hx.func_inv
    rcases hs (.func (.func f) b' c') with h1 | h1
    · have := h1.2 _ _ _ rfl
      subst this
      exact OpOk.pure hr hx rfl
    · exact absurd rfl h1
  · cases hv

theorem panic_ok {x x' : Value} (hx : VR μ x x') {r : Rs} (hv : panicV h (some x) = some r) : OpOk P μ h w (do pure (.value (← Instr.panic x'))) r := by
  unfold panicV at hv
  split at hv
  · rename_i t v heq; cases heq
    cases hv
    cases hx with
    | iface _ _ v' hvv =>
    exact ⟨rfl, _, .iface _ _ _ hvv, by simp [Instr.panic]⟩
  · cases hv

include ok hr ht in
theorem op_ok {o : Oper} {r : Rs} (hv : opA o.op T ρ h = some r) (hnew : NewIn μ h.next (nextOf h r)) : OpOk P μ h w (execOp a.eval o) r := by
  obtain ⟨dst, op, type, pos, after, guard⟩ := o
  simp only at hv
  cases op with
  | move x =>
    obtain ⟨v, h1, rfl⟩ := val_some (show val h (eval x ρ) = some r from hv)
    exact OpOk.pure hr (eval_ok ht h1) rfl
  | assign x =>
    obtain ⟨v, h1, rfl⟩ := val_some (show val h (eval x ρ) = some r from hv)
    exact OpOk.pure hr (eval_ok ht h1) rfl
  | pick c x y =>
    replace hv : pickV ρ h x y (eval c ρ) = some r := hv
    obtain ⟨cv, hc⟩ := some_of (f := pickV ρ h x y) hv rfl
    rw [hc] at hv
    obtain ⟨v, v', rfl, h2, h3⟩ := pick_ok (P := P) (w := w) (eval_ok ht hc) ht hv
    exact OpOk.pure hr h2 h3
  | alloc t => exact opm (alloc_ok (w := w) ok hr (show allocV T h t = some r from hv) hnew)
  | box t x =>
    replace hv : boxV T h t (eval x ρ) = some r := hv
    obtain ⟨xv, hx⟩ := some_of (f := boxV T h t) hv rfl
    rw [hx] at hv
    exact opm (box_ok (w := w) ok hr (eval_ok ht hx) hv hnew)
  | build t ps =>
    obtain ⟨v, h1, rfl⟩ := val_some (show val h (buildV T t (evalParts ρ ps.toList)) = some r from hv)
    obtain ⟨l, hl⟩ := some_of (f := buildV T t) h1 rfl
    rw [hl] at h1
    obtain ⟨v', h2, h3⟩ := build_ok (w := w) ok (evalParts_ok ht hl) h1
    have e : (ps.toList.map fun (i, x) => (i, a.eval x)).toArray = ps.map fun (i, x) => (i, a.eval x) := Array.ext' (by simp)
    rw [e] at h3
    exact opv hr ⟨v, v', rfl, h2, h3⟩
  | buildSlice t len ps =>
    replace hv : buildSliceV T h t len (evalParts ρ ps.toList) = some r := hv
    obtain ⟨l, hl⟩ := some_of (f := buildSliceV T h t len) hv rfl
    rw [hl] at hv
    obtain ⟨μ', h', v, v', w', q1, q2, q3, q4⟩ := buildSlice_ok (w := w) ok hr (evalParts_ok ht hl) hv hnew
    have e : (ps.toList.map fun (i, x) => (i, a.eval x)).toArray = ps.map fun (i, x) => (i, a.eval x) := Array.ext' (by simp)
    rw [e] at q4
    exact opm ⟨μ', h', v, v', w', q1, q2, q3, q4⟩
  | insert => cases (show (none : Option Rs) = some r from hv)
  | load t x =>
    obtain ⟨v, h1, rfl⟩ := val_some (show val h (loadV T h t (eval x ρ)) = some r from hv)
    obtain ⟨xv, hx⟩ := some_of (f := loadV T h t) h1 rfl
    rw [hx] at h1
    unfold loadV at h1
    split at h1
    · rename_i ad heq; cases heq
      obtain ⟨a', v', h2, h3, h4⟩ := loadAt_ok (w := w) ok hr (eval_ok ht hx) h1
      refine opv hr ⟨v, v', rfl, h3, ?_⟩
      rw [h2]
      simpa only [RunV, Instr.loadAt, Instr.sureAddr, pure_bind] using h4
    · cases h1
  | store t x y =>
    replace hv : storeV T h t (eval x ρ) (eval y ρ) = some r := hv
    obtain ⟨xv, hx⟩ := some_of (f := fun o => storeV T h t o (eval y ρ)) hv rfl
    rw [hx] at hv
    obtain ⟨yv, hy⟩ := some_of (f := storeV T h t (some xv)) hv (by unfold storeV; split <;> simp_all)
    rw [hy] at hv
    exact opu (storeV_ok (w := w) ok hr (eval_ok ht hx) (eval_ok ht hy) hv)
  | ready => cases (show (none : Option Rs) = some r from hv)
  | waits => cases (show (none : Option Rs) = some r from hv)
  | nilCheck x =>
    replace hv : nilCheckV h (eval x ρ) = some r := hv
    obtain ⟨xv, hx⟩ := some_of (f := nilCheckV h) hv rfl
    rw [hx] at hv
    refine nilCheck_ok hr (eval_ok ht hx) hv fun v => ?_
    by_cases e : v = a.eval x
    · left
      refine ⟨fun ad hq => ?_, fun f b c hq => ?_⟩
      · rw [e] at hq; simp only [execOp]; rw [hq, e, hq]
      · rw [e] at hq; simp only [execOp]; rw [hq, e, hq]
    · exact .inr e
  | binOp op t x y yt =>
    replace hv : binV T h op t (isConst x || isConst y) (eval x ρ) (eval y ρ) = some r := hv
    obtain ⟨xv, hx⟩ := some_of (f := fun o => binV T h op t (isConst x || isConst y) o (eval y ρ)) hv rfl
    rw [hx] at hv
    obtain ⟨yv, hy⟩ := some_of (f := binV T h op t (isConst x || isConst y) (some xv)) hv (by unfold binV; split <;> simp_all)
    rw [hy] at hv
    exact opv hr (bin_ok (w := w) ok (eval_ok ht hx) (eval_ok ht hy) hv)
  | unOp op t x =>
    replace hv : unV h op (eval x ρ) = some r := hv
    obtain ⟨xv, hx⟩ := some_of (f := unV h op) hv rfl
    rw [hx] at hv
    exact opv hr (un_ok (P := P) (w := w) (eval_ok ht hx) hv)
  | convert s d x =>
    replace hv : convS T h (T.und s) (T.und d) (eval x ρ) = some r := hv
    unfold convS at hv
    cases hs : T.und s with
    | none => rw [hs] at hv; cases hv
    | some ds =>
      rw [hs] at hv
      simp only at hv
      obtain ⟨xv, hx⟩ := some_of (f := convV T h (some ds) (T.und d)) hv rfl
      rw [hx, ← hs] at hv
      exact opm (conv_ok (w := w) ok hr (eval_ok ht hx) hv ⟨ds, hs⟩ hnew)
  | sliceToArrayPointer => cases (show (none : Option Rs) = some r from hv)
  | makeInterface t x =>
    replace hv : ifaceV T h t (eval x ρ) = some r := hv
    obtain ⟨xv, hx⟩ := some_of (f := ifaceV T h t) hv rfl
    rw [hx] at hv
    exact opv hr (iface_ok (w := w) ok (eval_ok ht hx) hv)
  | makeFunc fn x y =>
    replace hv : funcV h fn (evals ρ x.toList) (evals ρ y.toList) = some r := hv
    obtain ⟨l, hl⟩ := some_of (f := fun o => funcV h fn o (evals ρ y.toList)) hv rfl
    rw [hl] at hv
    obtain ⟨m, hm⟩ := some_of (f := funcV h fn (some l)) hv rfl
    rw [hm] at hv
    cases hv
    refine OpOk.pure hr (v' := .func fn (x.map a.eval) (y.map a.eval)) (VR.func_mk fn ?_ ?_) rfl
    · rw [map_list]; exact evals_ok ht hl
    · rw [map_list]; exact evals_ok ht hm
  | makeMap t rs =>
    obtain ⟨μ', h', v, v', w', q1, rfl, q2, q3, q4⟩ := makeMap_ok (w := w) (t := t) hr (show makeMapR h rs = some r from hv) hnew
    exact opm ⟨μ', h', v, v', w', q1, q2, q3, q4⟩
  | makeChan => cases (show (none : Option Rs) = some r from hv)
  | makeSlice t x y =>
    replace hv : makeSliceV T h t (eval x ρ) (eval y ρ) = some r := hv
    obtain ⟨xv, hx⟩ := some_of (f := fun o => makeSliceV T h t o (eval y ρ)) hv rfl
    rw [hx] at hv
    obtain ⟨yv, hy⟩ := some_of (f := makeSliceV T h t (some xv)) hv (by unfold makeSliceV; split <;> simp_all)
    rw [hy] at hv
    exact opm (makeSlice_ok (w := w) ok hr (eval_ok ht hx) (eval_ok ht hy) hv hnew)
  | slice t x lo hi mx =>
    obtain ⟨v, h1, rfl⟩ := val_some (show val h (sliceV T h t (eval x ρ) (evalO ρ lo) (evalO ρ hi) (evalO ρ mx)) = some r from hv)
    have hsome : ∃ xv lov hiv mxv, eval x ρ = some xv ∧ evalO ρ lo = some lov ∧ evalO ρ hi = some hiv ∧ evalO ρ mx = some mxv := by
      unfold sliceV at h1
      split at h1
      · rename_i e1 e2 e3 e4; exact ⟨_, _, _, _, e1, e2, e3, e4⟩
      · cases h1
    obtain ⟨xv, lov, hiv, mxv, e1, e2, e3, e4⟩ := hsome
    rw [e1, e2, e3, e4] at h1
    obtain ⟨v', h2, h3⟩ := slice_ok (w := w) ok hr (eval_ok ht e1) (ov_ok ht e2) (ov_ok ht e3) (ov_ok ht e4) h1
    exact opv hr ⟨v, v', rfl, h2, h3⟩
  | fieldAddr s x f =>
    replace hv : fieldAddrV T h s f (eval x ρ) = some r := hv
    obtain ⟨xv, hx⟩ := some_of (f := fieldAddrV T h s f) hv rfl
    rw [hx] at hv
    exact opv hr (fieldAddr_ok (w := w) ok (eval_ok ht hx) hv)
  | field s x f =>
    replace hv : fieldV T h s f (eval x ρ) = some r := hv
    obtain ⟨xv, hx⟩ := some_of (f := fieldV T h s f) hv rfl
    rw [hx] at hv
    exact opv hr (field_ok (w := w) ok (eval_ok ht hx) hv)
  | indexAddr t x y =>
    replace hv : indexAddrV T h t (eval x ρ) (eval y ρ) = some r := hv
    obtain ⟨xv, hx⟩ := some_of (f := fun o => indexAddrV T h t o (eval y ρ)) hv rfl
    rw [hx] at hv
    obtain ⟨yv, hy⟩ := some_of (f := indexAddrV T h t (some xv)) hv (by unfold indexAddrV; split <;> simp_all)
    rw [hy] at hv
    exact opv hr (indexAddr_ok (w := w) ok (eval_ok ht hx) (eval_ok ht hy) hv)
  | index t x y =>
    replace hv : indexV T h t (eval x ρ) (eval y ρ) = some r := hv
    obtain ⟨xv, hx⟩ := some_of (f := fun o => indexV T h t o (eval y ρ)) hv rfl
    rw [hx] at hv
    obtain ⟨yv, hy⟩ := some_of (f := indexV T h t (some xv)) hv (by unfold indexV; split <;> simp_all)
    rw [hy] at hv
    exact opv hr (index_ok (w := w) ok (eval_ok ht hx) (eval_ok ht hy) hv)
  | lookup t x y cok =>
    replace hv : lookupV T h t cok (eval x ρ) (eval y ρ) = some r := hv
    obtain ⟨xv, hx⟩ := some_of (f := fun o => lookupV T h t cok o (eval y ρ)) hv rfl
    rw [hx] at hv
    obtain ⟨yv, hy⟩ := some_of (f := lookupV T h t cok (some xv)) hv (by unfold lookupV; split <;> simp_all)
    rw [hy] at hv
    exact opv hr (lookup_ok (w := w) ok hr (eval_ok ht hx) (eval_ok ht hy) hv)
  | mapUpdate t x y z =>
    replace hv : mapUpdV T h t (eval x ρ) (eval y ρ) (eval z ρ) = some r := hv
    obtain ⟨xv, hx⟩ := some_of (f := fun o => mapUpdV T h t o (eval y ρ) (eval z ρ)) hv rfl
    rw [hx] at hv
    obtain ⟨yv, hy⟩ := some_of (f := fun o => mapUpdV T h t (some xv) o (eval z ρ)) hv (by show mapUpdV T h t (some xv) none (eval z ρ) = none; unfold mapUpdV; split <;> simp_all)
    rw [hy] at hv
    obtain ⟨zv, hz⟩ := some_of (f := mapUpdV T h t (some xv) (some yv)) hv (by unfold mapUpdV; split <;> simp_all)
    rw [hz] at hv
    exact opu (mapUpd_ok (w := w) ok hr (eval_ok ht hx) (eval_ok ht hy) (eval_ok ht hz) hv)
  | mapEntry t x y =>
    replace hv : mapEntV T h t (eval x ρ) (eval y ρ) = some r := hv
    obtain ⟨xv, hx⟩ := some_of (f := fun o => mapEntV T h t o (eval y ρ)) hv rfl
    rw [hx] at hv
    obtain ⟨yv, hy⟩ := some_of (f := mapEntV T h t (some xv)) hv (by unfold mapEntV; split <;> simp_all)
    rw [hy] at hv
    obtain ⟨h', v, v', w', q1, q2, q3, q4⟩ := mapEnt_ok (w := w) ok hr (eval_ok ht hx) (eval_ok ht hy) hv
    exact opm ⟨μ, h', v, v', w', q1, q2, q3, q4⟩
  | entryStore t x y z =>
    replace hv : entStoreV h (eval x ρ) (eval y ρ) (eval z ρ) = some r := hv
    obtain ⟨xv, hx⟩ := some_of (f := fun o => entStoreV h o (eval y ρ) (eval z ρ)) hv rfl
    rw [hx] at hv
    obtain ⟨yv, hy⟩ := some_of (f := fun o => entStoreV h (some xv) o (eval z ρ)) hv (by show entStoreV h (some xv) none (eval z ρ) = none; unfold entStoreV; split <;> simp_all)
    rw [hy] at hv
    obtain ⟨zv, hz⟩ := some_of (f := entStoreV h (some xv) (some yv)) hv (by unfold entStoreV; split <;> simp_all)
    rw [hz] at hv
    exact opu (entStore_ok (w := w) hr t (eval_ok ht hx) (eval_ok ht hy) (eval_ok ht hz) hv)
  | range t x =>
    replace hv : rangeV T h t (eval x ρ) = some r := hv
    obtain ⟨xv, hx⟩ := some_of (f := rangeV T h t) hv rfl
    rw [hx] at hv
    exact opm (range_ok (w := w) ok hr (eval_ok ht hx) hv hnew)
  | next x str =>
    replace hv : nextV h str (eval x ρ) = some r := hv
    obtain ⟨xv, hx⟩ := some_of (f := nextV h str) hv rfl
    rw [hx] at hv
    obtain ⟨h', v, v', w', q1, q2, q3, q4⟩ := next_ok (w := w) (ty := type) ok hr (eval_ok ht hx) hv
    exact opm ⟨μ, h', v, v', w', q1, q2, q3, q4⟩
  | entry x =>
    replace hv : entryV h (eval x ρ) = some r := hv
    obtain ⟨xv, hx⟩ := some_of (f := entryV h) hv rfl
    rw [hx] at hv
    exact opv hr (entry_ok (w := w) hr (eval_ok ht hx) hv)
  | typeAssert x xt t cok =>
    replace hv : assertV T h t cok (eval x ρ) = some r := hv
    obtain ⟨xv, hx⟩ := some_of (f := assertV T h t cok) hv rfl
    rw [hx] at hv
    exact opv hr (assert_ok (w := w) (xt := xt) ok (eval_ok ht hx) hv)
  | extract x i =>
    replace hv : extractV h i (eval x ρ) = some r := hv
    obtain ⟨xv, hx⟩ := some_of (f := extractV h i) hv rfl
    rw [hx] at hv
    exact opv hr (extract_ok (P := P) (w := w) (eval_ok ht hx) hv)
  | call c => exact call_ok (w := w) ok hr ht (show callV T ρ h c (evals ρ c.args.toList) = some r from hv) hnew
  | go => cases (show (none : Option Rs) = some r from hv)
  | defer c => exact defer_ok (P := P) (w := w) ht (show deferV ρ c (evals ρ c.args.toList) = some r from hv)
  | panic x =>
    replace hv : panicV h (eval x ρ) = some r := hv
    obtain ⟨xv, hx⟩ := some_of (f := panicV h) hv rfl
    rw [hx] at hv
    exact panic_ok (eval_ok ht hx) hv
  | send => cases (show (none : Option Rs) = some r from hv)
  | recv => cases (show (none : Option Rs) = some r from hv)
  | select => cases (show (none : Option Rs) = some r from hv)
end
end Go.AE

/- What the evaluator computes of one operation, the model computes: going over texts and maps, delete, clear, calls without a body. -/
import Derived.Test.YtgambdjpncpdaaaGreatDoorEvOps9
import Derived.Laws.RangeString
import Derived.Laws.Externs
namespace Go.AE

section
variable {P : Program} {T : Tab} (ok : TabOk P T) {μ : Mu} {h : Mem} {w : World} (hr : HR P μ h w)

theorem blt_lt {a b : Nat} (h : Nat.blt a b = true) : a < b := Nat.le_of_ble_eq_true h

theorem un_ok {op : UnOp} {x x' : Value} (hx : VR μ x x') {r : Rs} (hv : unV h op (some x) = some r) :
    ∃ v v', r = .value v h ∧ VR μ v v' ∧ RunV P w (Op.unary op x') v' := by
  unfold unV at hv
  split at hv
  · rename_i b e; cases e
    cases hx
    split at hv
    · have := bool_some hv
      subst this
      exact ⟨_, _, rfl, .bool _, rfl⟩
    · cases hv
  · rename_i k n e; cases e
    cases hx
    split at hv
    · have := int_some hv
      subst this
      refine ⟨_, _, rfl, .int _ _, ?_⟩
      simp only [RunV, Op.unary, Op.intArith, Sem.run_pure, wr_eq]
      rfl
    · cases hk : isUns k with
      | false => rw [hk] at hv; cases hv
      | true =>
        rw [hk] at hv
        simp only at hv
        obtain ⟨v, rfl, h2⟩ := bits_ok (P := P) (w := w) hv
        refine ⟨_, _, rfl, .int _ _, ?_⟩
        have : (if k.signed = true then (-1 : Int) else k.max) = .ofNat (hiN k) := by cases k <;> first | rfl | (cases hk)
        simp only [RunV, Op.unary]
        rw [this]
        exact h2
    · cases hv
  · rename_i k b e; cases e
    cases hx
    split at hv
    · simp only [frN_eq, Option.some.injEq] at hv
      subst hv
      exact ⟨_, _, rfl, .float _ _, rfl⟩
    · cases hv
  · cases hv

/- what goes over something -/
include hr in
theorem iterNew_ok {ob : Ob} {o : Obj} {r : Rs} (hv : iterNew h ob = some r) (hnew : NewIn μ h.next (nextOf h r))
    (ho : ∀ μ', μ.Ext μ' → OR P μ' ⟨w.heap.size, 0, 0, 0, .empty, []⟩ ob { w with heap := w.heap.push o }) :
    ∃ μ' h' v, r = .value v h' ∧ Post P μ h w μ' h' { w with heap := w.heap.push o } ∧ VR μ' v (.pointer (some ⟨w.heap.size, 0, none⟩)) := by
  simp only [iterNew, frN_eq, Option.some.injEq] at hv
  subst hv
  have hfresh := newIn_alloc hnew
  have hp := Post.alloc (w := w) hr hfresh ⟨w.heap.size, 0, 0, 0, .empty, []⟩ ob o rfl (ho _ (Mu.add_ext _ hfresh))
  refine ⟨_, _, _, rfl, hp, ?_⟩
  have := VR.ptr (μ := μ.add h.next ⟨w.heap.size, 0, 0, 0, .empty, []⟩) h.next 0 _ (Mu.add_same _ _)
  simpa using this

include ok hr in
theorem range_ok {t : TypeId} {x x' : Value} (hx : VR μ x x') {r : Rs} (hv : rangeV T h t (some x) = some r) (hnew : NewIn μ h.next (nextOf h r)) :
    ∃ μ' h' v v' w', r = .value v h' ∧ Post P μ h w μ' h' w' ∧ VR μ' v v' ∧ (Instr.range t x').run P w = .ok v' w' := by
  unfold rangeV rangeD at hv
  cases hu : T.und t with
  | none => rw [hu] at hv; cases hv
  | some d =>
  rw [hu] at hv
  cases d with
  | string =>
    simp only at hv
    split at hv
    · rename_i s
      cases hx
      obtain ⟨μ', h', v, rfl, p, q⟩ := iterNew_ok (w := w) (o := .stringIter s 0) hr hv hnew (fun _ _ => ⟨rfl, s, by simp, rfl⟩)
      exact ⟨μ', h', v, _, _, rfl, p, q, by simp [Instr.range, run_und ok hu]⟩
    · cases hv
  | map kt e =>
    simp only at hv
    split at hv
    · cases hx
      obtain ⟨μ', h', v, rfl, p, q⟩ := iterNew_ok (w := w) (o := .mapIter none 0 #[] 0) hr hv hnew (fun _ _ => ⟨rfl, none, trivial, by simp⟩)
      exact ⟨μ', h', v, _, _, rfl, p, q, by simp [Instr.range, run_und ok hu]⟩
    · rename_i id
      cases hx with
      | map _ L hl =>
      unfold rangeM at hv
      split at hv
      · rename_i es cl hg
        obtain ⟨L', hl', ho⟩ := hr.dom _ _ hg
        rw [hl] at hl'; cases hl'
        obtain ⟨es', hw, her⟩ := ho
        obtain ⟨μ', h', v, rfl, p, q⟩ := iterNew_ok (w := w) (o := .mapIter (some L.blk) cl #[] cl) hr hv hnew (fun μ' e => ⟨rfl, some L.blk, ⟨L, e _ _ hl, rfl⟩, by simp⟩)
        exact ⟨μ', h', v, _, _, rfl, p, q, by simp [Instr.range, run_und ok hu, getObj, Sem.run, hw]⟩
      · cases hv
    · cases hv
  | _ => simp only at hv; cases hv

include hr in
theorem iter_inv {a : Addr} {x' : Value} {ob : Ob} (hx : VR μ (.pointer (some a)) x') (hs : atStart a = true) (hg : h.bs.get a.block = some ob)
    (hsh : ∀ L, OR P μ L ob w → L.shift = 0) : ∃ L, μ a.block = some L ∧ OR P μ L ob w ∧ x' = .pointer (some ⟨L.blk, 0, none⟩) := by
  obtain ⟨_, L, hl, rfl⟩ := ptr_inv hx
  obtain ⟨L', hl', ho⟩ := hr.dom _ _ hg
  rw [hl] at hl'; cases hl'
  refine ⟨L, hl, ho, ?_⟩
  have h0 : a.off = 0 := Nat.eq_of_beq_eq_true hs
  rw [hsh L ho, h0]

include hr in
theorem setIter_ok {id : Nat} {L : Loc} {ob ob' : Ob} {o o' : Obj} (hl : μ id = some L) (hg : h.bs.get id = some ob) (hw : w.heap[L.blk]? = some o) (hnc : ∀ c e f, o ≠ .cells c e f)
    (ho : OR P μ L ob' { w with heap := w.heap.setIfInBounds L.blk o' }) :
    (setObj L.blk o').run P w = .ok () { w with heap := w.heap.setIfInBounds L.blk o' } ∧ Post P μ h w μ (h.set id ob') { w with heap := w.heap.setIfInBounds L.blk o' } := by
  refine ⟨?_, Post.write hr hg hl (by simp) (fun k hk => ?_) rfl rfl rfl ho⟩
  · cases o with
    | cells c e f => exact absurd rfl (hnc c e f)
    | _ => simp [setObj, Sem.run, hw]
  · simp only [Array.getElem?_setIfInBounds_ne (Ne.symm hk)]
theorem set_at {B : Nat} {o o' : Obj} (hw : w.heap[B]? = some o) : ({ w with heap := w.heap.setIfInBounds B o' } : World).heap[B]? = some o' := by
  have := (Array.getElem?_eq_some_iff.1 hw).1
  simp [this]

theorem ER.cons_inv {e : MapEntry} {es es' : List MapEntry} (he : ER μ (e :: es) es') :
    ∃ e' es2, es' = e' :: es2 ∧ VR μ e.key e'.key ∧ VR μ e.val e'.val ∧ e.born = e'.born ∧ ER μ es es2 := by
  cases es' with
  | nil => have := he.1; simp at this
  | cons a b =>
    obtain ⟨h1, h2, h3⟩ := he.2 0 e a (by simp) (by simp)
    exact ⟨a, b, rfl, h1, h2, h3, by have := he.1; simpa using this, fun j x y hx hy => he.2 (j + 1) x y (by simpa using hx) (by simpa using hy)⟩
theorem ER.nil_inv {es' : List MapEntry} (he : ER μ [] es') : es' = [] := by
  cases es' with
  | nil => rfl
  | cons a b => have := he.1; simp at this
theorem ER.cons {e e' : MapEntry} {es es' : List MapEntry} (h1 : VR μ e.key e'.key) (h2 : VR μ e.val e'.val) (h3 : e.born = e'.born) (he : ER μ es es') : ER μ (e :: es) (e' :: es') := by
  refine ⟨by simp [he.1], fun i a b ha hb => ?_⟩
  cases i with
  | zero => simp at ha hb; subst ha hb; exact ⟨h1, h2, h3⟩
  | succ i => exact he.2 i a b (by simpa using ha) (by simpa using hb)
theorem ER.nil : ER μ [] [] := ⟨rfl, fun i a b ha _ => by simp at ha⟩

theorem hasN_eq (n : Nat) : ∀ (l : List Nat), hasN n l = l.contains n
  | [] => rfl
  | k :: l => by
    unfold hasN
    rw [List.contains_cons, ← hasN_eq n l]
    cases hb : Nat.beq n k with
    | true => have := Nat.eq_of_beq_eq_true hb; subst this; simp
    | false =>
      have : (n == k) = false := by
        cases he : (n == k) with
        | false => rfl
        | true => have := eq_of_beq he; subst this; simp at hb
      simp [this]
theorem left_ok (seen : List Nat) : ∀ {es es' : List MapEntry}, ER μ es es' → ER μ (leftE seen es) (es'.filter fun e => !seen.contains e.born)
  | [], es', he => by rw [he.nil_inv]; exact .nil
  | e :: es, es', he => by
    obtain ⟨e', es2, rfl, h1, h2, h3, h4⟩ := he.cons_inv
    unfold leftE
    rw [List.filter_cons, ← h3, hasN_eq]
    cases hb : seen.contains e.born with
    | true => simp only [Bool.not_true]; rw [if_neg (by simp)]; exact left_ok seen h4
    | false => simp only [Bool.not_false]; rw [if_pos trivial]; exact .cons h1 h2 h3 (left_ok seen h4)
theorem anyOld_ok (last : Nat) : ∀ {es es' : List MapEntry}, ER μ es es' → anyOld last es = true → (es'.all fun e => decide (e.born ≥ last)) = false
  | [], _, _, h => by cases h
  | e :: es, es', he, h => by
    obtain ⟨e', es2, rfl, h1, h2, h3, h4⟩ := he.cons_inv
    unfold anyOld at h
    rw [List.all_cons, ← h3]
    cases hb : Nat.blt e.born last with
    | true =>
      have : e.born < last := blt_lt hb
      simp [Nat.not_le.2 this]
    | false => rw [hb] at h; simp only at h; rw [anyOld_ok last h4 h]; simp
theorem goesOn_ok {seen : List Nat} {last : Nat} {es : List MapEntry} {es' : Array MapEntry} (he : ER μ es es'.toList) (hg : goesOn seen last es = true) :
    (!seen.toArray.isEmpty && !es'.isEmpty && es'.all fun e => decide (e.born ≥ last)) = false := by
  obtain ⟨l'⟩ := es'
  unfold goesOn at hg
  split at hg
  · simp
  · have := he.nil_inv; simp only at this; subst this; simp
  · have := anyOld_ok last he hg
    simp only at this
    simp [this]

theorem txt_lt {b : ByteArray} {pos : Nat} {c : UInt8} (h : (txt b)[pos]? = some c) : ∃ hp : pos < b.size, b[pos]'hp = c := by
  rw [← bytes_get] at h
  by_cases hp : pos < b.size
  · refine ⟨hp, ?_⟩
    rw [getElem?_pos b pos hp] at h
    exact Option.some.inj h
  · rw [getElem?_neg b pos hp] at h; cases h
theorem txt_end {b : ByteArray} {pos : Nat} (h : (txt b)[pos]? = none) : ¬ pos < b.size := by
  intro hp
  rw [← bytes_get, getElem?_pos b pos hp] at h
  cases h

include ok hr in
theorem next_ok {str : Bool} {ty : TypeId} {x x' : Value} (hx : VR μ x x') {r : Rs} (hv : nextV h str (some x) = some r) :
    ∃ h' v v' w', r = .value v h' ∧ Post P μ h w μ h' w' ∧ VR μ v v' ∧ (Instr.next x' str ty).run P w = .ok v' w' := by
  have _ := ok
  unfold nextV at hv
  split at hv
  · rename_i a heq
    cases heq
    cases hs : atStart a with
    | false => rw [hs] at hv; cases hv
    | true =>
    rw [hs] at hv
    simp only at hv
    unfold iterO at hv
    split at hv
    · -- a text
      rename_i s pos hg
      obtain ⟨L, hl, ho, rfl⟩ := iter_inv (w := w) hr hx hs hg (fun _ h => h.1)
      obtain ⟨hsh, b, hw, rfl⟩ := ho
      cases str with
      | false => cases hv
      | true =>
      simp only at hv
      have hget : (getObj L.blk).run P w = .ok (.stringIter b pos) w := by simp [getObj, Sem.run, hw]
      cases hc : (txt b)[pos]? with
      | none =>
        rw [hc] at hv
        cases hv
        refine ⟨h, _, .tuple #[.bool false], w, rfl, .refl hr, VR.tuple_mk (.one (.bool _)), ?_⟩
        simp only [Instr.next, Sem.run_bind, hget, Result.andThen_ok]
        rw [if_neg (txt_end hc)]
        rfl
      | some c =>
        rw [hc] at hv
        simp only [iterS] at hv
        cases hlt : Nat.blt c.toNat 128 with
        | false => rw [hlt] at hv; cases hv
        | true =>
          rw [hlt] at hv
          simp only [frN_eq, Option.some.injEq] at hv
          subst hv
          obtain ⟨hp, hb⟩ := txt_lt hc
          have hlt' : (b[pos]'hp).toNat < 128 := by rw [hb]; exact blt_lt hlt
          have hdec := decode_ascii b pos hp hlt'
          obtain ⟨g1, g2⟩ := setIter_ok (P := P) (ob' := .siter (txt b) (Nat.succ pos)) (o' := .stringIter b (pos + 1)) hr hl hg hw (fun _ _ _ => nofun) ⟨hsh, b, set_at hw, rfl⟩
          refine ⟨_, _, .tuple #[.bool true, goInt pos, .int .i32 (b[pos]'hp).toNat], _, rfl, g2, ?_, ?_⟩
          · rw [hb]
            exact VR.tuple_mk (.cons (.bool _) (.cons (.int _ _) (.cons (.int _ _) .nil)))
          · simp only [Instr.next, Sem.run_bind, hget, Result.andThen_ok]
            rw [if_pos hp]
            simp only [hdec, Sem.run_bind, g1, Result.andThen_ok, Sem.run_pure]
    · -- a map
      rename_i m since seen last hg
      obtain ⟨L, hl, ho, rfl⟩ := iter_inv (w := w) hr hx hs hg (fun _ h => h.1)
      obtain ⟨hsh, m', hm, hw⟩ := ho
      cases str with
      | true => cases hv
      | false =>
      simp only at hv
      have hget : (getObj L.blk).run P w = .ok (.mapIter m' since seen.toArray last) w := by simp [getObj, Sem.run, hw]
      cases m with
      | none =>
        cases m' with
        | some _ => exact hm.elim
        | none =>
        cases hv
        refine ⟨h, _, .tuple #[.bool false], w, rfl, .refl hr, VR.tuple_mk (.one (.bool _)), ?_⟩
        simp only [Instr.next, Sem.run_bind, hget, Result.andThen_ok]
        rfl
      | some m =>
        cases m' with
        | none => exact hm.elim
        | some B =>
        obtain ⟨Lm, hlm, rfl⟩ := hm
        simp only at hv
        unfold iterM at hv
        split at hv
        · rename_i es cl hgm
          obtain ⟨Lm', hlm', hom⟩ := hr.dom _ _ hgm
          rw [hlm] at hlm'; cases hlm'
          obtain ⟨es', hwm, her⟩ := hom
          have hgetm : (getObj Lm.blk).run P w = .ok (.map es' cl) w := by simp [getObj, Sem.run, hwm]
          cases hgo : goesOn seen last es with
          | false => rw [hgo] at hv; cases hv
          | true =>
          rw [hgo] at hv
          simp only at hv
          have hgoes := goesOn_ok her hgo
          have hleft := left_ok seen her
          have hflt : (es'.filter fun e => !seen.toArray.contains e.born) = (es'.toList.filter fun e => !seen.contains e.born).toArray := by
            apply Array.ext'
            rw [Array.toList_filter]
            simp
          unfold iterE at hv
          split at hv
          · rename_i hle
            cases hv
            rw [hle] at hleft
            have hnil := hleft.nil_inv
            refine ⟨h, _, .tuple #[.bool false], w, rfl, .refl hr, VR.tuple_mk (.one (.bool _)), ?_⟩
            simp only [Instr.next, Sem.run_bind, hget, Result.andThen_ok, hgetm]
            rw [hgoes]
            simp only [Bool.false_eq_true, if_false, Sem.run_bind]
            rw [hflt, hnil]
            simp [Question.forced]
          · rename_i e hle
            cases hbn : Nat.blt e.born since with
            | false => rw [hbn] at hv; cases hv
            | true =>
            rw [hbn] at hv
            simp only [Option.some.injEq] at hv
            subst hv
            rw [hle] at hleft
            obtain ⟨e', es2, hnil, h1, h2, h3, h4⟩ := hleft.cons_inv
            have := h4.nil_inv; subst this
            have hold : e'.born < since := by rw [← h3]; exact blt_lt hbn
            obtain ⟨g1, g2⟩ := setIter_ok (P := P) (ob' := .miter (some m) since (seen ++ [e.born]) cl) (o' := .mapIter (some Lm.blk) since (seen ++ [e'.born]).toArray cl) hr hl hg hw (fun _ _ _ => nofun)
              ⟨hsh, some Lm.blk, ⟨Lm, hlm, rfl⟩, by rw [set_at hw, h3]⟩
            refine ⟨_, _, .tuple #[.bool true, e'.key, e'.val], _, rfl, g2, VR.tuple_mk (.cons (.bool _) (.cons h1 (.cons h2 .nil))), ?_⟩
            simp only [Instr.next, Sem.run_bind, hget, Result.andThen_ok, hgetm]
            rw [hgoes]
            simp only [Bool.false_eq_true, if_false, Sem.run_bind]
            rw [hflt, hnil]
            have hge : ¬ since ≤ e'.born := by omega
            simp [Question.forced, hold, hge]
            rw [g1]
            rfl
          · cases hv
        · cases hv
    · cases hv
  · cases hv

theorem lastN_eq : ∀ (l : List Nat), lastN l = l.getLast?
  | [] => rfl
  | [n] => rfl
  | a :: b :: l => by
    show lastN (b :: l) = _
    rw [lastN_eq (b :: l), List.getLast?_cons_cons]
theorem findBorn_ok (b : Nat) : ∀ {es es' : List MapEntry} {e : MapEntry}, ER μ es es' → findBorn b es = some e → ∃ e', es'.find? (·.born == b) = some e' ∧ VR μ e.key e'.key ∧ VR μ e.val e'.val
  | [], _, _, _, h => by cases h
  | a :: es, es', e, he, h => by
    obtain ⟨e', es2, rfl, h1, h2, h3, h4⟩ := he.cons_inv
    unfold findBorn at h
    rw [List.find?_cons]
    cases hb : Nat.beq a.born b with
    | true =>
      rw [hb] at h
      cases h
      have := Nat.eq_of_beq_eq_true hb
      have hb' : (e'.born == b) = true := by rw [← h3, this]; simp
      rw [hb']
      exact ⟨e', rfl, h1, h2⟩
    | false =>
      rw [hb] at h
      have hb' : (e'.born == b) = false := by
        rw [← h3]
        cases hq : (a.born == b) with
        | false => rfl
        | true => have := eq_of_beq hq; rw [this] at hb; simp at hb
      rw [hb']
      exact findBorn_ok b h4 h

include hr in
theorem entry_ok {x x' : Value} (hx : VR μ x x') {r : Rs} (hv : entryV h (some x) = some r) : ∃ v v', r = .value v h ∧ VR μ v v' ∧ RunV P w (Instr.entry x') v' := by
  unfold entryV at hv
  split at hv
  · rename_i a heq
    cases heq
    cases hs : atStart a with
    | false => rw [hs] at hv; cases hv
    | true =>
    rw [hs] at hv
    simp only at hv
    unfold entryO at hv
    split at hv
    · rename_i m since seen stepped hg
      obtain ⟨L, hl, ho, rfl⟩ := iter_inv (w := w) hr hx hs hg (fun _ h => h.1)
      obtain ⟨hsh, m', hm, hw⟩ := ho
      have hget : (getObj L.blk).run P w = .ok (.mapIter m' since seen.toArray stepped) w := by simp [getObj, Sem.run, hw]
      cases m' with
      | none => exact hm.elim
      | some B =>
      obtain ⟨Lm, hlm, rfl⟩ := hm
      unfold entryM at hv
      split at hv
      · rename_i es cl hgm
        obtain ⟨Lm', hlm', hom⟩ := hr.dom _ _ hgm
        rw [hlm] at hlm'; cases hlm'
        obtain ⟨es', hwm, her⟩ := hom
        have hgetm : (getObj Lm.blk).run P w = .ok (.map es' cl) w := by simp [getObj, Sem.run, hwm]
        split at hv
        · rename_i b hcl hlast
          have hcl := Nat.eq_of_beq_eq_true hcl
          subst hcl
          rw [lastN_eq] at hlast
          unfold entryR at hv
          split at hv
          · rename_i e hf
            cases hv
            obtain ⟨e', f1, f2, f3⟩ := findBorn_ok b her hf
            refine ⟨_, .tuple #[e'.key, e'.val], rfl, VR.tuple_mk (.cons f2 (.cons f3 .nil)), ?_⟩
            have hback : seen.toArray.back? = some b := by simpa using hlast
            have hfind : es'.find? (fun e => e.born == b) = some e' := by rw [← f1]; obtain ⟨l⟩ := es'; simp
            simp only [RunV, Instr.entry, Sem.run_bind, hget, Result.andThen_ok, hback, hgetm, bne_self_eq_false, Bool.false_eq_true, if_false, Sem.run_pure, hfind]
          · cases hv
        · cases hv
      · cases hv
    · cases hv
  · cases hv

/- delete, clear -/
theorem ER.erase {es es' : List MapEntry} (he : ER μ es es') (j : Nat) : ER μ (es.eraseIdx j) (es'.eraseIdx j) := by
  refine ⟨?_, fun i a b ha hb => ?_⟩
  · rw [List.length_eraseIdx, List.length_eraseIdx, he.1]
  · rw [List.getElem?_eraseIdx] at ha hb
    by_cases hij : i < j
    · rw [if_pos hij] at ha hb; exact he.2 i a b ha hb
    · rw [if_neg hij] at ha hb; exact he.2 (i + 1) a b ha hb

include ok hr in
theorem delete_ok {t ty : TypeId} {ts : List TypeId} {x y x' y' : Value} (hx : VR μ x x') (hy : VR μ y y') {r : Rs} (hv : deleteV T h x y (T.und t) = some r) :
    ∃ h' v v' w', r = .value v h' ∧ Post P μ h w μ h' w' ∧ VR μ v v' ∧ (Builtin.delete_ (t :: ts).toArray ty #[x', y']).run P w = .ok v' w' := by
  unfold deleteV at hv
  cases hu : T.und t with
  | none => rw [hu] at hv; cases hv
  | some d =>
  rw [hu] at hv
  cases d with
  | map kt e =>
    simp only at hv
    split at hv
    · cases hx
      cases hk : keyT (T.und kt) y with
      | false => rw [hk] at hv; cases hv
      | true =>
      rw [hk] at hv
      cases hv
      obtain ⟨kd, hkd⟩ := keyT_some hk
      rw [hkd] at hk
      have hk' := key_conc hk hy
      refine ⟨h, _, .tuple #[], w, rfl, .refl hr, VR.tuple_mk .nil, ?_⟩
      simp [Builtin.delete_, run_und ok hu, checkKey_run ok _ hkd hk']
    · rename_i id
      unfold delG at hv
      split at hv
      · rename_i es cl hg
        cases hk : keyT (T.und kt) y with
        | false => rw [hk] at hv; cases hv
        | true =>
        rw [hk] at hv
        simp only at hv
        obtain ⟨kd, hkd⟩ := keyT_some hk
        rw [hkd] at hk
        have hk' := key_conc hk hy
        cases hx with
        | map _ L hl =>
        obtain ⟨L', hl', ho⟩ := hr.dom _ _ hg
        rw [hl] at hl'; cases hl'
        obtain ⟨es', hw, her⟩ := ho
        have hget : (getObj L.blk).run P w = .ok (.map es' cl) w := by simp [getObj, Sem.run, hw]
        cases hf : findKeyA y es 0 with
        | none => rw [hf] at hv; cases hv
        | some fr =>
        rw [hf] at hv
        rcases find_ok hk hy her hf with ⟨rfl, r2⟩ | ⟨j, v, v', rfl, r1, r2, r3, a, a', r4, r5, r6⟩
        · cases hv
          obtain ⟨w', g1, g2⟩ := setMap_ok (cl2 := cl) hr hl hg hw her
          refine ⟨_, _, .tuple #[], w', rfl, g2, VR.tuple_mk .nil, ?_⟩
          simp only [Builtin.delete_, List.getElem?_toArray, List.getElem?_cons_zero, List.getElem?_cons_succ, Sem.run_bind, run_und ok hu, Result.andThen_ok, hget, checkKey_run ok _ hkd hk', findKey_run ok hkd r2, g1, Sem.run_pure]
        · cases hv
          have her2 : ER μ (es.eraseIdx j) (es'.eraseIdxIfInBounds j).toList := by
            rw [show (es'.eraseIdxIfInBounds j).toList = es'.toList.eraseIdx j by simp]
            exact her.erase j
          obtain ⟨w', g1, g2⟩ := setMap_ok (cl2 := cl) hr hl hg hw her2
          refine ⟨_, _, .tuple #[], w', rfl, g2, VR.tuple_mk .nil, ?_⟩
          simp only [Builtin.delete_, List.getElem?_toArray, List.getElem?_cons_zero, List.getElem?_cons_succ, Sem.run_bind, run_und ok hu, Result.andThen_ok, hget, checkKey_run ok _ hkd hk', findKey_run ok hkd r2, g1, Sem.run_pure]
      · cases hv
    · cases hv
  | _ => simp only at hv; cases hv

include ok hr in
theorem clear_ok {t ty : TypeId} {ts : List TypeId} {x x' : Value} (hx : VR μ x x') {r : Rs} (hv : clearV T h x (T.und t) = some r) :
    ∃ h' v v' w', r = .value v h' ∧ Post P μ h w μ h' w' ∧ VR μ v v' ∧ (Builtin.clear_ (t :: ts).toArray ty #[x']).run P w = .ok v' w' := by
  unfold clearV at hv
  cases hu : T.und t with
  | none => rw [hu] at hv; cases hv
  | some d =>
  rw [hu] at hv
  cases d with
  | slice e =>
    simp only at hv
    split at hv
    · cases hv
      obtain ⟨rfl, rfl, rfl⟩ := slice_none_inv hx
      refine ⟨h, _, .tuple #[], w, rfl, .refl hr, VR.tuple_mk .nil, ?_⟩
      simp [Builtin.clear_, run_und ok hu]
    · rename_i a n c
      obtain ⟨hsp, hle, b, c', rfl, hcc, _⟩ := slice_some_inv hx
      cases n with
      | zero =>
        cases hv
        refine ⟨h, _, .tuple #[], w, rfl, .refl hr, VR.tuple_mk .nil, ?_⟩
        simp [Builtin.clear_, run_und ok hu]
      | succ n =>
        simp only [clearG] at hv
        split at hv
        · rename_i z hz
          cases hsm : Nat.ble (Nat.succ n) 1048576 with
          | false => rw [hsm] at hv; cases hv
          | true =>
          rw [hsm] at hv
          simp only at hv
          unfold skipR at hv
          split at hv
          · rename_i h' hst
            cases hv
            obtain ⟨_, L, c2, hl, _, _, _, heq⟩ := slice_inv hx (by omega)
            cases heq
            obtain ⟨_, _, _, hc⟩ := ok.zero hz
            obtain ⟨w', g1, g2⟩ := storeRow_ok (w := w) hr hst hl (zeros_ok (μ := μ) (n := n + 1) hc)
            refine ⟨h', _, .tuple #[], w', rfl, g2, VR.tuple_mk .nil, ?_⟩
            simp only [Builtin.clear_, List.getElem?_toArray, List.getElem?_cons_zero, Sem.run_bind, run_und ok hu, Result.andThen_ok, run_zero ok hz, Sem.run_pure]
            have : (Builtin.zeroCells z.cells (n + 1)).toList = (Array.range ((n + 1) * z.cells.size)).toList.map (fun i => z.cells[i % z.cells.size]!) := by
              simp [Builtin.zeroCells]
            first
              | rw [show (storeCells _ (Builtin.zeroCells z.cells (n + 1)).toList).run P w = .ok () w' from g1]
              | simp only [Builtin.zeroCells]; rw [g1]
            rfl
          · cases hv
        · cases hv
    · cases hv
  | _ => simp only at hv; cases hv

/- calls without a body -/
theorem indexB_ok (s : ByteArray) (c : Nat) (hc : c < 256) : indexB c (txt s) 0 = firstIdx s c.toUInt8 := by
  have key : ∀ (l : List UInt8) (i : Nat), (∀ j, l[j]? = (txt s)[i + j]?) →
      indexB c l i = (match (List.range' i l.length).find? fun k => s[k]! == c.toUInt8 with | some k => (k : Int) | none => -1) := by
    intro l
    induction l with
    | nil => intro i _; rfl
    | cons b l ih =>
      intro i hl
      have h0 := hl 0
      simp only [List.getElem?_cons_zero, Nat.add_zero] at h0
      obtain ⟨hp, hb⟩ := txt_lt h0.symm
      have hb' : s[i]! = b := by rw [getElem!_pos s i hp]; exact hb
      rw [List.length_cons, List.range'_succ, List.find?_cons, hb']
      unfold indexB
      cases hq : Nat.beq b.toNat c with
      | true =>
        have := Nat.eq_of_beq_eq_true hq
        subst this
        simp
      | false =>
        have hne : (b == c.toUInt8) = false := by
          cases hw : (b == c.toUInt8) with
          | false => rfl
          | true =>
            have := eq_of_beq hw
            subst this
            have : (c.toUInt8).toNat = c := by simp [Nat.toUInt8, Nat.mod_eq_of_lt hc]
            rw [this] at hq
            simp at hq
        rw [hne]
        simp only
        exact ih (i + 1) fun j => by have := hl (j + 1); rw [show i + 1 + j = i + (j + 1) by omega]; simpa using this
  rw [key (txt s) 0 (fun j => by rw [Nat.zero_add]), txt_size]
  unfold firstIdx
  rw [List.range_eq_range']
  cases (List.range' 0 s.size).find? (fun k => s[k]! == c.toUInt8) <;> rfl

theorem digits_size : ∀ (n t : Nat) (acc : Array Value), (Extern.BytealgMakeNoZero.digits n t acc).size = acc.size + n
  | 0, _, acc => rfl
  | n + 1, t, acc => by
    unfold Extern.BytealgMakeNoZero.digits
    rw [digits_size n]
    simp
    omega

include ok hr in
theorem noZero_ok {n : Nat} {ps rs : Array TypeId} {r : Rs} (hv : noZeroV T h n rs.toList[0]? = some r) (hnew : NewIn μ h.next (nextOf h r)) :
    ∃ μ' h' v v' w', r = .value v h' ∧ Post P μ h w μ' h' w' ∧ VR μ' v v' ∧ (Extern.BytealgMakeNoZero.makeNoZero ps rs #[.int .i64 n]).run P w = .ok v' w' := by
  unfold noZeroV at hv
  split at hv
  · rename_i t ht
    cases hsm : Nat.ble n 1048576 with
    | false => rw [hsm] at hv; cases hv
    | true =>
    rw [hsm] at hv
    simp only [frN_eq] at hv
    unfold noZeroD at hv
    split at hv
    · rename_i e hu
      unfold noZeroE at hv
      split at hv
      · rename_i hz
        have := mkSlice_some hv
        subst this
        have hn := Nat.le_of_ble_eq_true hsm
        let cap := (Question.appendCap n 0 e).cut (w.tape w.drawn (.appendCap n 0 e))
        have hcap : n ≤ cap := by simp [cap, Question.cut]
        let w1 : World := { w with drawn := w.drawn + 1 }
        let by_ := (Question.extern "internal/bytealg.MakeNoZero.bytes" 0).cut (w1.tape w1.drawn (.extern "internal/bytealg.MakeNoZero.bytes" 0))
        let w2 : World := { w with drawn := w.drawn + 1 + 1 }
        have hp := Post.drawn hr (w.drawn + 1 + 1)
        have hfresh := newIn_alloc hnew
        let L : Loc := ⟨w.heap.size, 0, cap, 1, .empty, []⟩
        let arr := Extern.BytealgMakeNoZero.digits cap by_ #[]
        have harr : arr.size = cap := by show (Extern.BytealgMakeNoZero.digits cap by_ #[]).size = cap; rw [digits_size]; simp
        have hp2 := Post.alloc (w := w2) hp.rel hfresh L (.cells e (n * 1) .leaf) (.cells arr e) rfl
          ⟨.inl rfl, ok.tsize hz, by simp only [L]; omega, arr, e, (0, 0), by simp [L, w2], by simp only [L]; omega, fun j _ => by simp, fun j v hj => by cases hj⟩
        refine ⟨_, _, _, .slice (some ⟨w.heap.size, 0, none⟩) n cap, _, rfl, hp.trans hp2, ?_, ?_⟩
        · have := VR.slice (μ := μ.add h.next L) h.next 0 n n cap L (Mu.add_same _ _) (Nat.le_refl _) hcap (by simp [L])
          simpa [L] using this
        · have hrs : rs[0]? = some t := by rw [← Array.getElem?_toList]; exact ht
          have h0 : (decide ((n : Int) < 0) || decide ((n : Int) > 2 ^ 48)) = false := by
            simp
            omega
          change Sem.run P (do
            let some t := rs[0]? | stuck "bytealg.MakeNoZero: no result type"
            let .slice elem ← underlying t | stuck "bytealg.MakeNoZero: slice type expected"
            if (n : Int) < 0 || (n : Int) > 2 ^ 48 then runtimePanic (.error "makeslice: len out of range")
            let cap ← choose (.appendCap (n : Int).toNat 0 elem)
            askRoom cap
            let bytes ← choose (.extern "internal/bytealg.MakeNoZero.bytes" 0)
            let a ← Go.newRow elem (Extern.BytealgMakeNoZero.digits cap bytes #[])
            (Pure.pure (Value.slice (some a) (n : Int).toNat cap) : Sem Value)) w = _
          simp only [hrs, Sem.run_bind, run_und ok hu, Result.andThen_ok]
          rw [h0]
          simp only [Bool.false_eq_true, if_false, Sem.run_bind, Sem.run_pure, Result.andThen_ok, Int.toNat_natCast, run_choose, Question.forced, run_askRoom, Go.newRow, run_newObj]
          first
            | rfl
            | simp [Question.forced]; rfl
      · cases hv
    · cases hv
  · cases hv
end
end Go.AE

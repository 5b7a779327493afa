/- What the evaluator's values and memory stand for in a world of the model. -/
import Derived.Test.YtgambdjpncpdaaaGreatDoorEvBase
import Derived.Laws.Cells
namespace Go.AE

/-- Where a block of the evaluator lies: in which block, from which cell on, how many cells there are, and how many an element has. -/
structure Loc where
  blk : Nat
  shift : Nat
  ext : Nat
  esz : Nat
  str : ByteArray := .empty
  vals : List Value := []

abbrev Mu := Nat → Option Loc

def Mu.Ext (μ μ' : Mu) : Prop := ∀ id L, μ id = some L → μ' id = some L
theorem Mu.Ext.refl (μ : Mu) : μ.Ext μ := fun _ _ h => h
theorem Mu.Ext.trans {a b c : Mu} (h : a.Ext b) (k : b.Ext c) : a.Ext c := fun _ _ x => k _ _ (h _ _ x)

inductive VR (μ : Mu) : Value → Value → Prop where
  | bool (b) : VR μ (.bool b) (.bool b)
  | int (k n) : VR μ (.int k n) (.int k n)
  | float (k b) : VR μ (.float k b) (.float k b)
  | string (s) : VR μ (.string s) (.string s)
  | ptrNil : VR μ (.pointer none) (.pointer none)
  | ptr (id o L) (h : μ id = some L) : VR μ (.pointer (some ⟨id, o, none⟩)) (.pointer (some ⟨L.blk, L.shift + o, none⟩))
  | sliceNil : VR μ (.slice none 0 0) (.slice none 0 0)
  | slice (id o len cap cap' L) (h : μ id = some L) (hl : len ≤ cap) (hc : cap ≤ cap') (hx : o + cap' * L.esz ≤ L.ext) :
      VR μ (.slice (some ⟨id, o, none⟩) len cap) (.slice (some ⟨L.blk, L.shift + o, none⟩) len cap')
  | sliceEnd (id o) (b : Addr) : VR μ (.slice (some ⟨id, o, none⟩) 0 0) (.slice (some b) 0 0)
  /-- the text that is not known, but for bounds of its length -/
  | key (lo hi L) (h : μ 0 = some L) (h1 : lo ≤ L.str.size) (h2 : L.str.size ≤ hi) : VR μ (.complex .f64 lo hi) (.string L.str)
  /-- a number that is not known, but for bounds -/
  | num (lo hi : Nat) (z : Int) (h1 : (lo : Int) ≤ z + 9223372036854775808) (h2 : z + 9223372036854775808 ≤ hi) : VR μ (.complex .f32 lo hi) (.int .i64 z)
  /-- a cell that is not known -/
  | any (k : Nat) (v' : Value) (L : Loc) (h : μ 0 = some L) (hv : L.vals[k]? = some v') (h1 : v'.oneCell' = true) : VR μ (.chan (some k)) v'
  | mapNil : VR μ (.map none) (.map none)
  | map (id L) (h : μ id = some L) : VR μ (.map (some id)) (.map (some L.blk))
  | func (fn) (a a' b b' : Array Value) (ha : a.size = a'.size) (hb : b.size = b'.size)
      (ra : ∀ (i : Nat) (v v' : Value), a.toList[i]? = some v → a'.toList[i]? = some v' → VR μ v v') (rb : ∀ (i : Nat) (v v' : Value), b.toList[i]? = some v → b'.toList[i]? = some v' → VR μ v v') :
      VR μ (.func fn a b) (.func fn a' b')
  | nilFunc : VR μ .nilFunc .nilFunc
  | iface (t v v') (h : VR μ v v') : VR μ (.iface t v) (.iface t v')
  | nilIface : VR μ .nilIface .nilIface
  | agg (a a' : Array Value) (ha : a.size = a'.size) (ra : ∀ (i : Nat) (v v' : Value), a.toList[i]? = some v → a'.toList[i]? = some v' → VR μ v v') : VR μ (.agg a) (.agg a')
  | tuple (a a' : Array Value) (ha : a.size = a'.size) (ra : ∀ (i : Nat) (v v' : Value), a.toList[i]? = some v → a'.toList[i]? = some v' → VR μ v v') : VR μ (.tuple a) (.tuple a')

/-- Two lists, value by value. -/
def LR (μ : Mu) (l l' : List Value) : Prop := l.length = l'.length ∧ ∀ (i : Nat) (v v' : Value), l[i]? = some v → l'[i]? = some v' → VR μ v v'

theorem VR.mono {μ μ' : Mu} (e : μ.Ext μ') {v v' : Value} (h : VR μ v v') : VR μ' v v' := by
  induction h with
  | bool b => exact .bool b
  | int k n => exact .int k n
  | float k b => exact .float k b
  | string s => exact .string s
  | ptrNil => exact .ptrNil
  | ptr id o L h => exact .ptr id o L (e _ _ h)
  | sliceNil => exact .sliceNil
  | slice id o len cap cap' L h hl hc hx => exact .slice id o len cap cap' L (e _ _ h) hl hc hx
  | sliceEnd id o b => exact .sliceEnd id o b
  | key lo hi L h h1 h2 => exact .key lo hi L (e _ _ h) h1 h2
  | num lo hi z h1 h2 => exact .num lo hi z h1 h2
  | any k v' L h hv h1 => exact .any k v' L (e _ _ h) hv h1
  | mapNil => exact .mapNil
  | map id L h => exact .map id L (e _ _ h)
  | func fn a a' b b' ha hb ra rb iha ihb => exact .func fn a a' b b' ha hb iha ihb
  | nilFunc => exact .nilFunc
  | iface t v v' h ih => exact .iface t v v' ih
  | nilIface => exact .nilIface
  | agg a a' ha ra ih => exact .agg a a' ha ih
  | tuple a a' ha ra ih => exact .tuple a a' ha ih

namespace LR
variable {μ μ' : Mu} {l l' m m' : List Value} {v v' : Value}
theorem mono (e : μ.Ext μ') (h : LR μ l l') : LR μ' l l' := ⟨h.1, fun i v v' a b => (h.2 i v v' a b).mono e⟩
theorem nil : LR μ [] [] := ⟨rfl, fun i v v' a _ => by simp at a⟩
theorem cons (h : VR μ v v') (k : LR μ l l') : LR μ (v :: l) (v' :: l') := by
  refine ⟨by simp [k.1], fun i a b ha hb => ?_⟩
  cases i with
  | zero => simp at ha hb; subst ha hb; exact h
  | succ i => exact k.2 i a b (by simpa using ha) (by simpa using hb)
theorem one (h : VR μ v v') : LR μ [v] [v'] := cons h nil
theorem get (h : LR μ l l') {i : Nat} (hv : l[i]? = some v) : ∃ v', l'[i]? = some v' ∧ VR μ v v' := by
  have hi : i < l'.length := by
    rw [← h.1]
    rcases Nat.lt_or_ge i l.length with x | x
    · exact x
    · rw [List.getElem?_eq_none x] at hv; cases hv
  exact ⟨l'[i], List.getElem?_eq_getElem hi, h.2 i _ _ hv (List.getElem?_eq_getElem hi)⟩
theorem cons_inv (h : LR μ (v :: l) m) : ∃ v' l', m = v' :: l' ∧ VR μ v v' ∧ LR μ l l' := by
  cases m with
  | nil => have := h.1; simp at this
  | cons v' l' =>
    refine ⟨v', l', rfl, h.2 0 v v' (by simp) (by simp), ?_, fun i a b ha hb => ?_⟩
    · have := h.1; simpa using this
    · exact h.2 (i + 1) a b (by simpa using ha) (by simpa using hb)
theorem nil_inv (h : LR μ [] m) : m = [] := by
  have := h.1
  cases m with
  | nil => rfl
  | cons => simp at this
theorem append (h : LR μ l l') (k : LR μ m m') : LR μ (l ++ m) (l' ++ m') := by
  refine ⟨by simp [h.1, k.1], fun i a b ha hb => ?_⟩
  have e := h.1
  rcases Nat.lt_or_ge i l.length with x | x
  · rw [List.getElem?_append_left x] at ha
    rw [List.getElem?_append_left (by omega)] at hb
    exact h.2 i a b ha hb
  · rw [List.getElem?_append_right x] at ha
    rw [List.getElem?_append_right (by omega), ← e] at hb
    exact k.2 _ a b ha hb
theorem take (h : LR μ l l') (n : Nat) : LR μ (l.take n) (l'.take n) := by
  refine ⟨by simp [h.1], fun i a b ha hb => ?_⟩
  rw [List.getElem?_take] at ha hb
  split at ha
  · rename_i hi
    rw [if_pos hi] at hb
    exact h.2 i a b ha hb
  · cases ha
theorem drop (h : LR μ l l') (n : Nat) : LR μ (l.drop n) (l'.drop n) := by
  refine ⟨by simp [h.1], fun i a b ha hb => ?_⟩
  rw [List.getElem?_drop] at ha hb
  exact h.2 _ a b ha hb
end LR

theorem VR.agg_iff {μ : Mu} {a : Array Value} {x : Value} : VR μ (.agg a) x ↔ ∃ a', x = .agg a' ∧ LR μ a.toList a'.toList := by
  constructor
  · intro h
    cases h with
    | agg _ a' ha ra => exact ⟨a', rfl, by simpa using ha, ra⟩
  · rintro ⟨a', rfl, h1, h2⟩
    exact .agg _ _ (by simpa using h1) h2
theorem VR.tuple_iff {μ : Mu} {a : Array Value} {x : Value} : VR μ (.tuple a) x ↔ ∃ a', x = .tuple a' ∧ LR μ a.toList a'.toList := by
  constructor
  · intro h
    cases h with
    | tuple _ a' ha ra => exact ⟨a', rfl, by simpa using ha, ra⟩
  · rintro ⟨a', rfl, h1, h2⟩
    exact .tuple _ _ (by simpa using h1) h2
theorem VR.func_inv {μ : Mu} {fn : Fn} {a b : Array Value} {x : Value} (h : VR μ (.func fn a b) x) :
    ∃ a' b', x = .func fn a' b' ∧ LR μ a.toList a'.toList ∧ LR μ b.toList b'.toList := by
  cases h with
  | func _ _ a' _ b' ha hb ra rb => exact ⟨a', b', rfl, ⟨by simpa using ha, ra⟩, ⟨by simpa using hb, rb⟩⟩
theorem VR.func_mk {μ : Mu} (fn : Fn) {a b a' b' : Array Value} (h : LR μ a.toList a'.toList) (k : LR μ b.toList b'.toList) : VR μ (.func fn a b) (.func fn a' b') :=
  .func fn a a' b b' (by simpa using h.1) (by simpa using k.1) h.2 k.2
theorem VR.agg_mk {μ : Mu} {a a' : Array Value} (h : LR μ a.toList a'.toList) : VR μ (.agg a) (.agg a') := .agg _ _ (by simpa using h.1) h.2
theorem VR.tuple_mk {μ : Mu} {a a' : Array Value} (h : LR μ a.toList a'.toList) : VR μ (.tuple a) (.tuple a') := .tuple _ _ (by simpa using h.1) h.2

theorem VR.cells {μ : Mu} {v v' : Value} (h : VR μ v v') : LR μ (cellsL v) v'.cells.toList := by
  cases h with
  | agg a a' ha ra => exact ⟨by simpa [cellsL, Value.cells] using ha, by simpa [cellsL, Value.cells] using ra⟩
  | any k v' L h hv h1 =>
    have : v'.cells = #[v'] := by cases v' <;> first | rfl | cases h1
    rw [this]
    exact LR.one (.any k v' L h hv h1)
  | _ => exact LR.one (by first
      | exact .bool _ | exact .int _ _ | exact .float _ _ | exact .string _ | exact .ptrNil | exact .ptr _ _ _ ‹_› | exact .sliceNil
      | exact .slice _ _ _ _ _ _ ‹_› ‹_› ‹_› ‹_› | exact .sliceEnd _ _ _ | exact .key _ _ _ ‹_› ‹_› ‹_› | exact .num _ _ _ ‹_› ‹_› | exact .mapNil | exact .map _ _ ‹_› | exact .func _ _ _ _ _ ‹_› ‹_› ‹_› ‹_›
      | exact .nilFunc | exact .iface _ _ _ ‹_› | exact .nilIface | exact .tuple _ _ ‹_› ‹_›)
theorem VR.flat {μ : Mu} {v v' : Value} (h : VR μ v v') (k : isFlat v = true) : v'.oneCell' = true := by
  cases h <;> first | rfl | assumption | (simp [isFlat] at k)
theorem allFlat_get : ∀ {l : List Value}, allFlat l = true → ∀ {v : Value}, v ∈ l → isFlat v = true
  | [], _, v, h => by simp at h
  | a :: l, h, v, hv => by
    unfold allFlat at h
    cases ha : isFlat a with
    | false => rw [ha] at h; simp at h
    | true =>
      rw [ha] at h
      rcases List.mem_cons.1 hv with e | e
      · subst e; exact ha
      · exact allFlat_get h e

theorem VR.of_plain {μ : Mu} {v : Value} (h : plain v = true) : VR μ v v := by
  unfold plain at h
  split at h <;> first | exact .bool _ | exact .int _ _ | exact .float _ _ | exact .string _ | exact .ptrNil | exact .sliceNil | exact .mapNil | exact .nilFunc | exact .nilIface | (simp at h)
theorem LR.of_plain {μ : Mu} : ∀ {l : List Value}, allPlain l = true → LR μ l l
  | [], _ => .nil
  | v :: l, h => by
    unfold allPlain at h
    cases hv : plain v with
    | false => rw [hv] at h; simp at h
    | true => rw [hv] at h; exact .cons (.of_plain hv) (LR.of_plain h)
theorem VR.of_closed {μ : Mu} {v : Value} (h : closed v = true) : VR μ v v := by
  unfold closed at h
  split at h
  · exact VR.agg_mk (LR.of_plain h)
  · exact .of_plain h
theorem closedO_some {v u : Value} (h : closedO v = some u) : u = v ∧ closed v = true := by
  unfold closedO at h
  cases hc : closed v with
  | false => rw [hc] at h; cases h
  | true => rw [hc] at h; cases h; exact ⟨rfl, rfl⟩
theorem flat_of_plain {v : Value} (h : plain v = true) : isFlat v = true := by
  unfold plain at h
  split at h <;> first | rfl | (simp at h)

/-- Entries of a map. -/
def ER (μ : Mu) (l l' : List MapEntry) : Prop :=
  l.length = l'.length ∧ ∀ (i : Nat) (e e' : MapEntry), l[i]? = some e → l'[i]? = some e' → VR μ e.key e'.key ∧ VR μ e.val e'.val ∧ e.born = e'.born

def tsize (P : Program) (t : TypeId) : Option Nat := (P.info? t).map (·.size)

/-- The map that is gone over. -/
def MO (μ : Mu) : Option Nat → Option Nat → Prop
  | none, none => True
  | some id, some B => ∃ L, μ id = some L ∧ L.blk = B
  | _, _ => False
theorem MO.mono {μ μ' : Mu} (e : μ.Ext μ') : ∀ {m m' : Option Nat}, MO μ m m' → MO μ' m m'
  | none, none, _ => trivial
  | some _, some _, ⟨L, h1, h2⟩ => ⟨L, e _ _ h1, h2⟩
  | none, some _, h => h.elim
  | some _, none, h => h.elim

/-- A cell that holds a map stands at its block's start. -/
def NoShift (P : Program) (L : Loc) (ety : TypeId) : Prop := L.shift = 0 ∨ ∀ k e, P.underlying ety ≠ some (.map k e)

/-- A block. -/
def OR (P : Program) (μ : Mu) (L : Loc) (ob : Ob) (w : World) : Prop :=
  match ob with
  | .cells ety size c => NoShift P L ety ∧ tsize P ety = some L.esz ∧ size ≤ L.ext ∧ ∃ cs e fr, w.heap[L.blk]? = some (.cells cs e fr) ∧ L.shift + L.ext ≤ cs.size ∧
      (∀ i, i < L.ext → ¬ (fr.1 ≤ L.shift + i ∧ L.shift + i < fr.2)) ∧ ∀ i v, c.get i = some v → i < size ∧ ∃ v', cs[L.shift + i]? = some v' ∧ VR μ v v'
  | .map es clock => ∃ es' : Array MapEntry, w.heap[L.blk]? = some (.map es' clock) ∧ ER μ es es'.toList
  | .siter s pos => L.shift = 0 ∧ ∃ b, w.heap[L.blk]? = some (.stringIter b pos) ∧ txt b = s
  | .miter m since seen last => L.shift = 0 ∧ ∃ m', MO μ m m' ∧ w.heap[L.blk]? = some (.mapIter m' since seen.toArray last)

/-- Memory. -/
structure HR (P : Program) (μ : Mu) (h : Mem) (w : World) : Prop where
  dom : ∀ id ob, h.bs.get id = some ob → ∃ L, μ id = some L ∧ OR P μ L ob w
  inj : ∀ id id' ob ob' L L', h.bs.get id = some ob → h.bs.get id' = some ob' → id ≠ id' → μ id = some L → μ id' = some L' → L.blk ≠ L'.blk

def live (μ : Mu) (h : Mem) (B : Nat) : Prop := ∃ id ob L, h.bs.get id = some ob ∧ μ id = some L ∧ L.blk = B

/-- But for some blocks, all that was there is there as it was. -/
structure FR (D : Nat → Prop) (w w' : World) : Prop where
  os : w'.os = w.os
  tape : w'.tape = w.tape
  output : w'.output = w.output
  size : w.heap.size ≤ w'.heap.size
  block : ∀ k, k < w.heap.size → ¬ D k → w'.heap[k]? = w.heap[k]?

theorem FR.refl (D : Nat → Prop) (w : World) : FR D w w := ⟨rfl, rfl, rfl, Nat.le_refl _, fun _ _ _ => rfl⟩
theorem FR.trans {D D' : Nat → Prop} {a b c : World} (h : FR D a b) (k : FR D' b c) (hd : ∀ x, x < a.heap.size → ¬ D x → ¬ D' x) : FR D a c :=
  ⟨k.os.trans h.os, k.tape.trans h.tape, k.output.trans h.output, Nat.le_trans h.size k.size,
   fun x hx hn => (k.block x (Nat.lt_of_lt_of_le hx h.size) (hd x hx hn)).trans (h.block x hx hn)⟩

/-- From memory h in world w to memory h' in world w'. -/
structure Post (P : Program) (μ : Mu) (h : Mem) (w : World) (μ' : Mu) (h' : Mem) (w' : World) : Prop where
  ext : μ.Ext μ'
  new : ∀ id, μ' id ≠ μ id → h.next ≤ id ∧ id < h'.next
  le : h.next ≤ h'.next
  rel : HR P μ' h' w'
  frame : FR (live μ h) w w'
  fresh : ∀ B, live μ' h' B → live μ h B ∨ w.heap.size ≤ B

theorem Post.refl {P : Program} {μ : Mu} {h : Mem} {w : World} (hr : HR P μ h w) : Post P μ h w μ h w :=
  ⟨.refl μ, fun _ h => absurd rfl h, Nat.le_refl _, hr, .refl _ _, fun _ h => .inl h⟩
theorem Post.trans {P : Program} {μ μ' μ'' : Mu} {h h' h'' : Mem} {w w' w'' : World} (a : Post P μ h w μ' h' w') (b : Post P μ' h' w' μ'' h'' w'') :
    Post P μ h w μ'' h'' w'' := by
  refine ⟨a.ext.trans b.ext, fun id hid => ?_, Nat.le_trans a.le b.le, b.rel, a.frame.trans b.frame fun x hx hn hl => ?_, fun B hB => ?_⟩
  · by_cases e : μ' id = μ id
    · have := b.new id (fun x => hid (x.trans e)); have := a.le; omega
    · have := a.new id e; have := b.le; omega
  · rcases a.fresh x hl with y | y
    · exact hn y
    · omega
  · rcases b.fresh B hB with y | y
    · exact a.fresh B y
    · exact .inr (Nat.le_trans a.frame.size y)

/-- What was to be new is new. -/
def NewIn (μ : Mu) (a b : Nat) : Prop := ∀ id, a ≤ id → id < b → μ id = none

/- tables -/
structure TabOk (P : Program) (T : Tab) : Prop where
  types : ∀ t i, T.types.get t = some i → ∃ info, P.types[t]? = some info ∧ i = tiOf P t info
  funcs : ∀ f fn, T.funcs.get f = some fn → P.funcs[f]? = some fn

theorem tisOf_get (P : Program) : ∀ (l : List TypeInfo) (n k : Nat), (tisOf P l n)[k]? = (l[k]?).map (tiOf P (n + k))
  | [], n, k => by simp [tisOf]
  | i :: l, n, 0 => by simp [tisOf]
  | i :: l, n, k + 1 => by
    simp only [tisOf, List.getElem?_cons_succ]
    rw [tisOf_get P l, show Nat.succ n + k = n + (k + 1) by omega]

theorem tabOk (P : Program) : TabOk P (Tab.of P) := by
  constructor
  · intro t i h
    simp only [Tab.of, PM.ofList_get, tisOf_get] at h
    simp only [Nat.zero_add, Array.getElem?_toList, Option.map_eq_some_iff] at h
    obtain ⟨info, h1, h2⟩ := h
    exact ⟨info, h1, h2.symm⟩
  · intro f fn h
    simpa only [Tab.of, PM.ofList_get, Array.getElem?_toList] using h

theorem info_of {P : Program} {t : TypeId} {i : TypeInfo} (h : P.types[t]? = some i) : P.info? t = some i := by
  have ht : t < P.types.size := by
    rcases Nat.lt_or_ge t P.types.size with x | x
    · exact x
    · rw [Array.getElem?_eq_none x] at h; cases h
  unfold Tables.info?
  rw [if_pos ht]; exact h

section
variable {P : Program} {T : Tab} (ok : TabOk P T)
include ok
theorem TabOk.info {t : TypeId} {i : TI} (h : T.types.get t = some i) : ∃ info, P.info? t = some info ∧ i = tiOf P t info := by
  obtain ⟨info, h1, h2⟩ := ok.types t i h
  exact ⟨info, info_of h1, h2⟩
theorem TabOk.und {t : TypeId} {d : TypeDesc} (h : T.und t = some d) : P.underlying t = some d := by
  unfold Tab.und at h
  cases hi : T.types.get t with
  | none => rw [hi] at h; cases h
  | some i =>
    rw [hi] at h
    obtain ⟨info, h1, h2⟩ := ok.info hi
    subst h2
    simp only [tiOf] at h
    unfold undOf at h
    unfold Program.underlying
    rw [h1]
    cases hd : info.desc with
    | named n u =>
      rw [hd] at h
      simp only at h
      cases hu : P.types.toList[u]? with
      | none => rw [hu] at h; cases h
      | some j =>
        rw [hu] at h
        obtain ⟨desc, str, size, bytes, hp, al, fal, zero, comp, ms⟩ := info
        simp only at hd
        subst hd
        have := info_of (P := P) (by simpa using hu)
        simp only [this]
        simpa using h
    | _ =>
      rw [hd] at h
      obtain ⟨desc, str, size, bytes, hp, al, fal, zero, comp, ms⟩ := info
      simp only at hd
      subst hd
      simpa using h
theorem TabOk.size {t : TypeId} {n : Nat} (h : T.size t = some n) : ∃ info, P.info? t = some info ∧ info.size = n := by
  unfold Tab.size at h
  cases hi : T.types.get t with
  | none => rw [hi] at h; cases h
  | some i =>
    rw [hi] at h
    obtain ⟨info, h1, h2⟩ := ok.info hi
    subst h2
    exact ⟨info, h1, by simpa [tiOf] using h⟩
theorem TabOk.tsize {t : TypeId} {n : Nat} (h : T.size t = some n) : tsize P t = some n := by
  obtain ⟨info, h1, h2⟩ := ok.size h
  simp [AE.tsize, h1, h2]
theorem TabOk.zero {t : TypeId} {z : Value} (h : T.zero t = some z) : ∃ info, P.info? t = some info ∧ info.zero = some z ∧ closed z = true := by
  unfold Tab.zero at h
  cases hi : T.types.get t with
  | none => rw [hi] at h; cases h
  | some i =>
    rw [hi] at h
    obtain ⟨info, h1, h2⟩ := ok.info hi
    subst h2
    simp only [tiOf] at h
    cases hz : info.zero with
    | none => rw [hz] at h; cases h
    | some v =>
      rw [hz] at h
      obtain ⟨rfl, hc⟩ := closedO_some h
      exact ⟨info, h1, hz, hc⟩
theorem TabOk.agg {t : TypeId} {b : Bool} (h : T.agg t = some b) : ∃ d, P.underlying t = some d ∧ isAggD d = b := by
  unfold Tab.agg at h
  cases hi : T.types.get t with
  | none => rw [hi] at h; cases h
  | some i =>
    rw [hi] at h
    obtain ⟨info, h1, h2⟩ := ok.info hi
    subst h2
    simp only [tiOf] at h
    cases hu : undOf P info.desc with
    | none => rw [hu] at h; cases h
    | some d =>
      rw [hu] at h
      refine ⟨d, ok.und (t := t) ?_, by simpa [isAggO] using h⟩
      unfold Tab.und
      rw [hi]
      exact hu
end
end Go.AE

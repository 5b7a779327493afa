/- Regions that draw their order: in whatever order, the text's own answer. -/
import Derived.Test.YtgambdjpncpdaaaGreatDoorEvDr3
namespace Go.AE

/-- listed -/
def Ls (S : Array Bool) (i : Nat) : Prop := S[i]? = some true
theorem Ls_set {S : Array Bool} {i j : Nat} (hi : S[i]? = some false) : Ls (S.setIfInBounds i true) j ↔ Ls S j ∨ j = i := by
  unfold Ls
  have hlt : i < S.size := (Array.getElem?_eq_some_iff.1 hi).1
  by_cases e : i = j
  · subst e; simp [hlt]
  · rw [Array.getElem?_setIfInBounds_ne e]
    constructor
    · exact fun h => .inl h
    · rintro (h | h)
      · exact h
      · exact absurd h.symm e
theorem merge_org {m : Nat} {h : Mem} : ∀ {l : List Pd} {id : Nat} {ob : Ob}, (merge m l h).bs.get id = some ob → h.bs.get id = some ob ∨ ∃ p ∈ l, m.testBit p.ix = true ∧ p.id = id ∧ p.ob = ob
  | [], id, ob, hg => .inl hg
  | p :: l, id, ob, hg => by
    unfold merge at hg
    have old : (merge m l h).bs.get id = some ob → h.bs.get id = some ob ∨ ∃ p' ∈ p :: l, m.testBit p'.ix = true ∧ p'.id = id ∧ p'.ob = ob := fun hg =>
      (merge_org hg).imp _root_.id fun ⟨p', h1, h2⟩ => ⟨p', List.mem_cons_of_mem _ h1, h2⟩
    cases hb : m.testBit p.ix with
    | false => rw [hb] at hg; exact old hg
    | true =>
      rw [hb] at hg
      simp only [mset_eq, PM.set_get] at hg
      by_cases e : id = p.id
      · rw [if_pos e] at hg; cases hg
        exact .inr ⟨p, List.mem_cons_self .., hb, e.symm, rfl⟩
      · rw [if_neg e] at hg; exact old hg
theorem merge_next {m : Nat} {h : Mem} : ∀ {l : List Pd}, (merge m l h).next = h.next
  | [] => rfl
  | p :: l => by
    unfold merge
    split
    · rw [mset_eq]; exact merge_next
    · exact merge_next
theorem mergeAll_org {h : Mem} : ∀ {l : List Pd} {id : Nat} {ob : Ob}, (mergeAll l h).bs.get id = some ob → h.bs.get id = some ob ∨ ∃ p ∈ l, p.id = id ∧ p.ob = ob
  | [], id, ob, hg => .inl hg
  | p :: l, id, ob, hg => by
    unfold mergeAll at hg
    simp only [mset_eq, PM.set_get] at hg
    by_cases e : id = p.id
    · rw [if_pos e] at hg; cases hg
      exact .inr ⟨p, List.mem_cons_self .., e.symm, rfl⟩
    · rw [if_neg e] at hg
      exact (mergeAll_org hg).imp _root_.id fun ⟨p', h1, h2⟩ => ⟨p', List.mem_cons_of_mem _ h1, h2⟩
theorem mergeAll_next {h : Mem} : ∀ {l : List Pd}, (mergeAll l h).next = h.next
  | [] => rfl
  | p :: l => by
    unfold mergeAll
    rw [mset_eq]; exact mergeAll_next
theorem HR.leaf {P : Program} (μ : Mu) (n : Nat) (w : World) : HR P μ ⟨n, .leaf⟩ w :=
  ⟨fun _ ob h => (nomatch (show (none : Option Ob) = some ob from h)), fun _ _ ob _ _ _ h => (nomatch (show (none : Option Ob) = some ob from h))⟩
theorem not_live_leaf {μ : Mu} {n B : Nat} : ¬ live μ ⟨n, .leaf⟩ B := fun ⟨_, ob, _, h, _⟩ => nomatch (show (none : Option Ob) = some ob from h)

/-- What must be known of the blocks that are made and seen by none. -/
def InG (n : Nat) (st : Nat → Sg) (S : Array Bool) (q : Nat) (p : Pd) : Prop :=
  p.ix < n ∧ Ls S p.ix ∧ (st (p.ix + 1)).made = some p ∧ (p.ix < q → p ∈ (st q).pd)

structure Inv (P : Program) (its : List It) (nf base : Nat) (st : Nat → Sg) (nt : Nat) (ρ₀ : PM Value) (dfs : List Deferred) (μ₁ : Mu) (h₁ : Mem) (w₁ : World)
    (S : Array Bool) (q : Nat) (μ : Mu) (a : Act) (w : World) : Prop where
  size : S.size = its.length
  down : ∀ (i : Nat) (x : It), its[i]? = some x → Ls S i → ∀ j, x.mask.testBit j = true → Ls S j
  ql : q ≤ its.length
  bn : bnd its q = true
  ch : ∀ (c : Nat) (x : It), its[c]? = some x → isChain x.cls = true → (Ls S c ↔ c < q)
  env1 : ∀ t i, dstAt its i t → Ls S i → (∀ j, Ls S j → dstAt its j t → j ≤ i) → ∃ v', a.tmps[t]? = some v' ∧ VR μ (st (i + 1)).v v'
  env0 : ∀ t u, (∀ j, Ls S j → ¬ dstAt its j t) → ρ₀.get t = some u → ∃ v', a.tmps[t]? = some v' ∧ VR μ u v'
  sz : a.tmps.size = nt
  dfs : a.defers = dfs
  ext : μ₁.Ext μ
  hr : HR P μ (st q).h w
  gdom : ∀ p, InG its.length st S q p → ∃ L, μ p.id = some L ∧ OR P μ L p.ob w
  ginj : ∀ p p' L L', InG its.length st S q p → InG its.length st S q p' → p.ix ≠ p'.ix → μ p.id = some L → μ p'.id = some L' → L.blk ≠ L'.blk
  gsep : ∀ p L, InG its.length st S q p → μ p.id = some L → ¬ live μ (st q).h L.blk
  nfr : NewFrom μ (st q).h.next
  le : base + nf ≤ (st q).h.next
  un : ∀ (i : Nat) (x : It), its[i]? = some x → isFresh x.cls = true → ¬ Ls S i → μ (base + x.rank) = none
  fr : FR (live μ₁ h₁) w₁ w
  fb : ∀ B, (live μ (st q).h B ∨ ∃ p L, InG its.length st S q p ∧ μ p.id = some L ∧ L.blk = B) → live μ₁ h₁ B ∨ w₁.heap.size ≤ B
  new : ∀ id, μ id ≠ μ₁ id → base ≤ id ∧ id < (st q).h.next

section
variable {P : Program} {T : Tab} {call : CallT} {all : List Oper} {its : List It} {nf base nt : Nat} {s₀ : Sg} {st : Nat → Sg} {ρ₀ : PM Value} {dfs : List Deferred}
  {μ₁ μ μ' : Mu} {h₁ : Mem} {w₁ w w' : World} {S : Array Bool} {q i : Nat} {a : Act} {x : It} {ops : Array Oper}
  (rg : RegOk all its nf) (tr : Tr T call base all its s₀ st)

/-- An operation that may run. -/
structure Rdy (its : List It) (S : Array Bool) (i : Nat) (x : It) : Prop where
  at_ : its[i]? = some x
  no : S[i]? = some false
  mask : ∀ j, x.mask.testBit j = true → Ls S j

theorem Rdy.not {S : Array Bool} (r : Rdy its S i x) : ¬ Ls S i := fun h => by unfold Ls at h; rw [r.no] at h; cases h
theorem Rdy.lt (r : Rdy its S i x) : i < its.length := (List.getElem?_eq_some_iff.1 r.at_).1

include rg in
theorem rdy_of (hall : ops.toList = all) (iv : Inv P its nf base st nt ρ₀ dfs μ₁ h₁ w₁ S q μ a w) (h : i ∈ Region.ready .any ops S) : ∃ x, Rdy its S i x ∧ ops[i]? = some x.o := by
  obtain ⟨h1, o, ho, h2⟩ := mem_ready.1 h
  have hlt : i < ops.size := (Array.getElem?_eq_some_iff.1 ho).1
  have hlt' : i < its.length := by rw [rg.len, ← hall]; simpa using hlt
  have hx : its[i]? = some its[i] := List.getElem?_eq_getElem hlt'
  have hox := rg.o i _ hx
  rw [← hall, Array.getElem?_toList, ho] at hox
  cases hox
  have hS : i < S.size := by rw [iv.size]; exact hlt'
  have hno : S[i]? = some false := by
    rw [Array.getD_eq_getD_getElem?, Array.getElem?_eq_getElem hS] at h1
    rw [Array.getElem?_eq_getElem hS]
    simpa using h1
  refine ⟨_, ⟨hx, hno, fun j hj => ?_⟩, ho⟩
  obtain ⟨e, he, hb, hor⟩ := rg.mask i _ hx j hj
  have hl : Ls S e.on := by
    have := h2 e (by simpa using he) hb
    unfold Ls
    rw [Array.getD_eq_getD_getElem?] at this
    cases hs : S[e.on]? with
    | none => rw [hs] at this; cases this
    | some b => rw [hs] at this; simp at this; rw [this]
  rcases hor with rfl | ⟨y, hy, hyj⟩
  · exact hl
  · exact iv.down _ y hy hl j hyj

theorem clash_names {y z : It} {t : Tmp} (hd : y.o.dst = some t) (hn : t ∈ z.names) : clash y z = true ∧ clash z y = true := by
  have : dstIn z.names y.o.dst = true := by rw [hd]; exact hasT_mem hn
  constructor <;> (unfold clash; simp [this])
theorem clash_dst {y z : It} {t : Tmp} (hd : y.o.dst = some t) (hd' : z.o.dst = some t) : clash y z = true := by
  have : sameD y.o.dst z.o.dst = true := by rw [hd, hd']; simp [sameD]
  unfold clash; simp [this]
theorem clash_chain {y z : It} (hd : isChain y.cls = true) (hd' : isChain z.cls = true) : clash y z = true := by
  have : heavy y.cls z.cls = true := by
    cases hy : y.cls <;> rw [hy] at hd <;> first | (cases hd) | skip
    cases hz : z.cls <;> rw [hz] at hd' <;> first | rfl | (cases hd')
  unfold clash; simp [this]

include rg tr in
/-- The temporaries that an operation looks at. -/
theorem Inv.names (h0 : s₀.ρ = ρ₀) (iv : Inv P its nf base st nt ρ₀ dfs μ₁ h₁ w₁ S q μ a w) (r : Rdy its S i x) : TR μ (envOf (st i).ρ x.names) a.tmps := by
  intro t u ht
  obtain ⟨hn, hg⟩ := envOf_get ht
  have later : ∀ j, Ls S j → dstAt its j t → j < i := fun j hj ⟨y, hy, hd⟩ => by
    rcases Nat.lt_trichotomy j i with h | h | h
    · exact h
    · subst h; exact absurd hj r.not
    · exact absurd (iv.down j y hy hj i (rg.pair i j x y r.at_ hy h (clash_names hd hn).2)) r.not
  rcases tr.source i (Nat.le_of_lt r.lt) t u hg with ⟨k, hk, hd, rfl, hlast⟩ | ⟨h1, h2⟩
  · obtain ⟨y, hy, hdy⟩ := hd
    have hl : Ls S k := r.mask k (rg.pair k i y x hy r.at_ hk (clash_names hdy hn).1)
    exact iv.env1 t k ⟨y, hy, hdy⟩ hl fun j hj hd => hlast j (later j hj hd) hd
  · rw [h0] at h1
    exact iv.env0 t u (fun j hj hd => h2 j (later j hj hd) hd) h1

include rg in
/-- The temporaries behind an operation. -/
theorem Inv.env (iv : Inv P its nf base st nt ρ₀ dfs μ₁ h₁ w₁ S q μ a w) (r : Rdy its S i x) (hnt : ∀ d, x.o.dst = some d → d < nt) (e : μ.Ext μ') {v' : Value} (hv : VR μ' (st (i + 1)).v v') :
    (∀ t k, dstAt its k t → Ls (S.setIfInBounds i true) k → (∀ j, Ls (S.setIfInBounds i true) j → dstAt its j t → j ≤ k) →
      ∃ u', (a.put x.o.dst v').tmps[t]? = some u' ∧ VR μ' (st (k + 1)).v u') ∧
    (∀ t u, (∀ j, Ls (S.setIfInBounds i true) j → ¬ dstAt its j t) → ρ₀.get t = some u → ∃ u', (a.put x.o.dst v').tmps[t]? = some u' ∧ VR μ' u u') := by
  have other : ∀ t, x.o.dst ≠ some t → (a.put x.o.dst v').tmps[t]? = a.tmps[t]? := fun t ht => by
    cases hd : x.o.dst with
    | none => rfl
    | some d =>
      have : d ≠ t := fun e => ht (by rw [hd, e])
      simp [Act.put, Array.getElem?_setIfInBounds_ne this]
  constructor
  · intro t k hd hl hlast
    by_cases ht : x.o.dst = some t
    · have hik := hlast i ((Ls_set r.no).2 (.inr rfl)) ⟨x, r.at_, ht⟩
      have hki : k = i := by
        rcases (Ls_set r.no).1 hl with hk | hk
        · obtain ⟨y, hy, hdy⟩ := hd
          rcases Nat.lt_or_ge i k with h | h
          · exact absurd (iv.down k y hy hk i (rg.pair i k x y r.at_ hy h (clash_dst ht hdy))) r.not
          · omega
        · exact hk
      subst hki
      have := hnt t ht
      exact ⟨v', by simp [Act.put, ht, iv.sz, this], hv⟩
    · have hki : k ≠ i := fun h => by
        subst h
        obtain ⟨y, hy, hdy⟩ := hd
        rw [r.at_] at hy; cases hy
        exact ht hdy
      have hk : Ls S k := ((Ls_set r.no).1 hl).resolve_right hki
      obtain ⟨u', h1, h2⟩ := iv.env1 t k hd hk fun j hj hdj => hlast j ((Ls_set r.no).2 (.inl hj)) hdj
      exact ⟨u', by rw [other t ht]; exact h1, h2.mono e⟩
  · intro t u hno hu
    have ht : x.o.dst ≠ some t := fun h => hno i ((Ls_set r.no).2 (.inr rfl)) ⟨x, r.at_, h⟩
    obtain ⟨u', h1, h2⟩ := iv.env0 t u (fun j hj => hno j ((Ls_set r.no).2 (.inl hj))) hu
    exact ⟨u', by rw [other t ht]; exact h1, h2.mono e⟩

theorem Inv.down' (iv : Inv P its nf base st nt ρ₀ dfs μ₁ h₁ w₁ S q μ a w) (r : Rdy its S i x) :
    ∀ (k : Nat) (y : It), its[k]? = some y → Ls (S.setIfInBounds i true) k → ∀ j, y.mask.testBit j = true → Ls (S.setIfInBounds i true) j := by
  intro k y hy hl j hj
  rw [Ls_set r.no] at hl ⊢
  rcases hl with hl | rfl
  · exact .inl (iv.down k y hy hl j hj)
  · rw [r.at_] at hy; cases hy
    exact .inl (r.mask j hj)

theorem OR.frame {μ μ' : Mu} {K : Nat → Prop} {L : Loc} {ob : Ob} (ho : OR P μ L ob w) (e : μ.Ext μ') (f : FR K w w') (hn : ¬ K L.blk) : OR P μ' L ob w' :=
  ho.mono e (f.block _ ho.lt hn)
theorem HR.frame {μ μ' : Mu} {K : Nat → Prop} {h : Mem} (hr : HR P μ h w) (e : μ.Ext μ') (f : FR K w w') (hn : ∀ B, live μ h B → ¬ K B) : HR P μ' h w' := by
  refine ⟨fun id ob hg => ?_, fun id id' ob ob' L L' hg hg' hne h1 h2 => ?_⟩
  · obtain ⟨L, h1, h2⟩ := hr.dom id ob hg
    exact ⟨L, e _ _ h1, h2.frame e f (hn _ (live_of hg h1))⟩
  · obtain ⟨M, h3, _⟩ := hr.dom id ob hg
    obtain ⟨M', h4, _⟩ := hr.dom id' ob' hg'
    have := e _ _ h3; rw [h1] at this; cases this
    have := e _ _ h4; rw [h2] at this; cases this
    exact hr.inj id id' ob ob' _ _ hg hg' hne h3 h4
theorem live_ext {μ μ' : Mu} {h : Mem} {B : Nat} (hr : HR P μ h w) (e : μ.Ext μ') (hl : live μ' h B) : live μ h B := by
  obtain ⟨id, ob, L, hg, hL, rfl⟩ := hl
  obtain ⟨M, h1, _⟩ := hr.dom id ob hg
  have := e _ _ h1; rw [hL] at this; cases this
  exact live_of hg h1

/-- An operation that leaves memory alone. -/
theorem Inv.quiet (rg : RegOk all its nf) (iv : Inv P its nf base st nt ρ₀ dfs μ₁ h₁ w₁ S q μ a w) (r : Rdy its S i x) (hnt : ∀ d, x.o.dst = some d → d < nt)
    (hc : isChain x.cls = false) (hm : (st (i + 1)).made = none) (hfr : isFresh x.cls = true → (st (i + 1)).v = bad ∨ True) {K : Mem} (hr : HR P μ (st q).h w') (f : FR (live μ K) w w')
    (hK : ∀ B, live μ K B → live μ (st q).h B) {v' : Value} (hv : VR μ (st (i + 1)).v v') :
    Inv P its nf base st nt ρ₀ dfs μ₁ h₁ w₁ (S.setIfInBounds i true) q μ (a.put x.o.dst v') w' := by
  obtain ⟨e1, e0⟩ := iv.env rg r hnt (Mu.Ext.refl μ) hv
  have hG : ∀ p, InG its.length st (S.setIfInBounds i true) q p → InG its.length st S q p := fun p ⟨h1, h2, h3, h4⟩ => by
    refine ⟨h1, ((Ls_set r.no).1 h2).resolve_right fun e => ?_, h3, h4⟩
    rw [e, hm] at h3; cases h3
  refine ⟨by simp [iv.size], iv.down' r, iv.ql, iv.bn, fun c y hy hcy => ?_, e1, e0, by rw [Act.put_size]; exact iv.sz, by rw [Act.put_dfs]; exact iv.dfs, iv.ext, hr,
    fun p hp => ?_, fun p p' L L' hp hp' => iv.ginj p p' L L' (hG p hp) (hG p' hp'), fun p L hp => iv.gsep p L (hG p hp), iv.nfr, iv.le, fun k y hy hf hl => iv.un k y hy hf fun h => hl ((Ls_set r.no).2 (.inl h)),
    iv.fr.trans f fun B hB hn hl => ?_, fun B hB => iv.fb B (hB.imp id fun ⟨p, L, hp, h⟩ => ⟨p, L, hG p hp, h⟩), iv.new⟩
  · rw [Ls_set r.no, ← iv.ch c y hy hcy]
    constructor
    · rintro (h | rfl)
      · exact h
      · rw [r.at_] at hy; cases hy
        rw [hc] at hcy; cases hcy
    · exact fun h => .inl h
  · obtain ⟨L, h1, h2⟩ := iv.gdom p (hG p hp)
    exact ⟨L, h1, h2.frame (.refl μ) f fun hl => iv.gsep p L (hG p hp) h1 (hK _ hl)⟩
  · rcases iv.fb B (.inl (hK B hl)) with h | h
    · exact hn h
    · omega

include rg in
/-- Where the next operation with an order stands. -/
theorem Inv.next (iv : Inv P its nf base st nt ρ₀ dfs μ₁ h₁ w₁ S q μ a w) (r : Rdy its S i x) (hc : isChain x.cls = true) :
    q ≤ i ∧ (∀ (c : Nat) (y : It), q ≤ c → c < i → its[c]? = some y → isChain y.cls = false) ∧ ∀ (c : Nat) (y : It), its[c]? = some y → isChain y.cls = true → (Ls (S.setIfInBounds i true) c ↔ c < i + 1) := by
  have hqi : q ≤ i := by
    rcases Nat.lt_or_ge i q with h | h
    · exact absurd ((iv.ch i x r.at_ hc).2 h) r.not
    · exact h
  have hbefore : ∀ (c : Nat) (y : It), its[c]? = some y → isChain y.cls = true → c < i → Ls S c := fun c y hy hcy hci =>
    r.mask c (rg.pair c i y x hy r.at_ hci (clash_chain hcy hc))
  refine ⟨hqi, fun c y h1 h2 hy => ?_, fun c y hy hcy => ?_⟩
  · cases hcy : isChain y.cls with
    | false => rfl
    | true =>
      have := (iv.ch c y hy hcy).1 (hbefore c y hy hcy h2)
      omega
  · rw [Ls_set r.no]
    constructor
    · rintro (h | rfl)
      · have := (iv.ch c y hy hcy).1 h; omega
      · omega
    · intro h
      by_cases e : c = i
      · exact .inr e
      · exact .inl (hbefore c y hy hcy (by omega))

/-- An operation with an order. -/
theorem Inv.chain (rg : RegOk all its nf) (iv : Inv P its nf base st nt ρ₀ dfs μ₁ h₁ w₁ S q μ a w) (r : Rdy its S i x) (hnt : ∀ d, x.o.dst = some d → d < nt)
    (hc : isChain x.cls = true) {K : Mem} (hKn : K.next = (st q).h.next) (p : Post P μ K w μ' (st (i + 1)).h w')
    (hK : ∀ B, live μ K B → live μ (st q).h B ∨ ∃ p L, InG its.length st S q p ∧ μ p.id = some L ∧ L.blk = B)
    (hG : ∀ p, InG its.length st (S.setIfInBounds i true) (i + 1) p → InG its.length st S q p ∧ ∀ L, μ p.id = some L → ¬ live μ K L.blk) {v' : Value} (hv : VR μ' (st (i + 1)).v v') :
    Inv P its nf base st nt ρ₀ dfs μ₁ h₁ w₁ (S.setIfInBounds i true) (i + 1) μ' (a.put x.o.dst v') w' := by
  obtain ⟨e1, e0⟩ := iv.env rg r hnt p.ext hv
  obtain ⟨hqi, hno, hch⟩ := iv.next rg r hc
  have hnf : NewFrom μ K.next := by rw [hKn]; exact iv.nfr
  have hle := p.le
  have old : ∀ p' L', InG its.length st (S.setIfInBounds i true) (i + 1) p' → μ' p'.id = some L' → μ p'.id = some L' ∧ L'.blk < w.heap.size := fun p' L' hp' hL' => by
    obtain ⟨L, h1, h2⟩ := iv.gdom p' (hG p' hp').1
    have := p.ext _ _ h1
    rw [hL'] at this; cases this
    exact ⟨h1, h2.lt⟩
  refine ⟨by simp [iv.size], iv.down' r, r.lt, ?_, hch, e1, e0, by rw [Act.put_size]; exact iv.sz, by rw [Act.put_dfs]; exact iv.dfs, iv.ext.trans p.ext, p.rel,
    fun p' hp' => ?_, fun p1 p2 L1 L2 hp1 hp2 hne h1 h2 => iv.ginj p1 p2 L1 L2 (hG p1 hp1).1 (hG p2 hp2).1 hne (old _ _ hp1 h1).1 (old _ _ hp2 h2).1, fun p' L' hp' hL' hl => ?_,
    hnf.post p, by have := iv.le; omega, fun k y hy hf hl => ?_, iv.fr.trans p.frame fun B hB hn hl => ?_, fun B hB => ?_, fun id hid => ?_⟩
  · change isChainI its[i]? = true
    rw [r.at_]; exact hc
  · obtain ⟨L, h1, h2⟩ := iv.gdom p' (hG p' hp').1
    exact ⟨L, p.ext _ _ h1, h2.frame p.ext p.frame ((hG p' hp').2 L h1)⟩
  · obtain ⟨h1, h2⟩ := old p' L' hp' hL'
    rcases p.fresh _ hl with h | h
    · exact (hG p' hp').2 L' h1 h
    · omega
  · have hr := rg.rank k y hy hf
    have h1 := iv.un k y hy hf fun h => hl ((Ls_set r.no).2 (.inl h))
    by_cases e : μ' (base + y.rank) = μ (base + y.rank)
    · rw [e]; exact h1
    · have := (p.new _ e).1
      have := iv.le
      omega
  · rcases iv.fb B (hK B hl) with h | h
    · exact hn h
    · omega
  · rcases hB with hB | ⟨p', L, hp', hL, rfl⟩
    · rcases p.fresh B hB with h | h
      · exact iv.fb B (hK B h)
      · exact .inr (Nat.le_trans iv.fr.size h)
    · exact iv.fb _ (.inr ⟨p', L, (hG p' hp').1, (old p' L hp' hL).1, rfl⟩)
  · by_cases e : μ' id = μ id
    · have := iv.new id (by rw [← e]; exact hid)
      omega
    · have := p.new id e
      have := iv.le
      omega

/-- A block that is made. -/
theorem Inv.fresh (rg : RegOk all its nf) (iv : Inv P its nf base st nt ρ₀ dfs μ₁ h₁ w₁ S q μ a w) (r : Rdy its S i x) (hnt : ∀ d, x.o.dst = some d → d < nt)
    (hf : isFresh x.cls = true) {ob : Ob} {h1 : Mem} (hm : (st (i + 1)).made = some ⟨x.ix, base + x.rank, ob⟩) (hn1 : h1.next = base + x.rank + 1) (hb : h1.bs.get (base + x.rank) = some ob)
    (p : Post P μ ⟨base + x.rank, .leaf⟩ w μ' h1 w') {v' : Value} (hv : VR μ' (st (i + 1)).v v') :
    Inv P its nf base st nt ρ₀ dfs μ₁ h₁ w₁ (S.setIfInBounds i true) q μ' (a.put x.o.dst v') w' := by
  obtain ⟨e1, e0⟩ := iv.env rg r hnt p.ext hv
  have hxi := rg.ix i x r.at_
  have hrk := rg.rank i x r.at_ hf
  have hle := iv.le
  have hG : ∀ p', InG its.length st (S.setIfInBounds i true) q p' → InG its.length st S q p' ∨ p' = ⟨x.ix, base + x.rank, ob⟩ := fun p' ⟨h1, h2, h3, h4⟩ => by
    rcases (Ls_set r.no).1 h2 with h | h
    · exact .inl ⟨h1, h, h3, h4⟩
    · rw [h, hm] at h3; cases h3; exact .inr rfl
  have hnew : ∀ id, id ≠ base + x.rank → μ' id = μ id := fun id hid => Classical.byContradiction fun h => by
    have := p.new id h
    rw [hn1] at this
    simp only at this
    omega
  obtain ⟨L₀, hL₀, ho₀⟩ := p.rel.dom _ _ hb
  have hL₀b : w.heap.size ≤ L₀.blk := (p.fresh _ (live_of hb hL₀)).resolve_left not_live_leaf
  have old : ∀ p' L', InG its.length st S q p' → μ' p'.id = some L' → μ p'.id = some L' ∧ L'.blk < w.heap.size := fun p' L' hp' hL' => by
    obtain ⟨L, h1, h2⟩ := iv.gdom p' hp'
    have := p.ext _ _ h1
    rw [hL'] at this; cases this
    exact ⟨h1, h2.lt⟩
  have hlt : ∀ B, live μ (st q).h B → B < w.heap.size := fun B ⟨id, ob', L, hg, hL, hB⟩ => by
    obtain ⟨M, h1, h2⟩ := iv.hr.dom id ob' hg
    rw [hL] at h1; cases h1
    rw [← hB]; exact h2.lt
  refine ⟨by simp [iv.size], iv.down' r, iv.ql, iv.bn, fun c y hy hcy => ?_, e1, e0, by rw [Act.put_size]; exact iv.sz, by rw [Act.put_dfs]; exact iv.dfs, iv.ext.trans p.ext,
    iv.hr.frame p.ext p.frame fun _ _ => not_live_leaf, fun p' hp' => ?_, fun p1 p2 L1 L2 hp1 hp2 hne h1 h2 => ?_, fun p' L' hp' hL' hl => ?_,
    fun id hid => ?_, iv.le, fun k y hy hfy hl => ?_, iv.fr.trans p.frame fun B hB hn hl => not_live_leaf hl, fun B hB => ?_, fun id hid => ?_⟩
  · rw [Ls_set r.no, ← iv.ch c y hy hcy]
    constructor
    · rintro (h | rfl)
      · exact h
      · rw [r.at_] at hy; cases hy
        rw [(fresh_chain hf).1] at hcy; cases hcy
    · exact fun h => .inl h
  · rcases hG p' hp' with hp' | rfl
    · obtain ⟨L, h1, h2⟩ := iv.gdom p' hp'
      exact ⟨L, p.ext _ _ h1, h2.frame p.ext p.frame not_live_leaf⟩
    · exact ⟨L₀, hL₀, ho₀⟩
  · rcases hG p1 hp1 with hp1 | rfl <;> rcases hG p2 hp2 with hp2 | rfl
    · exact iv.ginj p1 p2 L1 L2 hp1 hp2 hne (old _ _ hp1 h1).1 (old _ _ hp2 h2).1
    · simp only at h2
      rw [hL₀] at h2; cases h2
      have := (old _ _ hp1 h1).2; omega
    · simp only at h1
      rw [hL₀] at h1; cases h1
      have := (old _ _ hp2 h2).2; omega
    · exact absurd rfl hne
  · have hl' := live_ext iv.hr p.ext hl
    rcases hG p' hp' with hp' | rfl
    · exact iv.gsep p' L' hp' (old _ _ hp' hL').1 hl'
    · simp only at hL'
      rw [hL₀] at hL'; cases hL'
      have := hlt _ hl'; omega
  · rw [hnew id (by omega)]; exact iv.nfr id hid
  · have hki : k ≠ i := fun h => hl ((Ls_set r.no).2 (.inr h))
    have : y.rank ≠ x.rank := fun h => hki (rg.ranks k i y x hy r.at_ hfy hf h)
    rw [hnew _ (by omega)]
    exact iv.un k y hy hfy fun h => hl ((Ls_set r.no).2 (.inl h))
  · rcases hB with hB | ⟨p', L, hp', hL, rfl⟩
    · exact iv.fb B (.inl (live_ext iv.hr p.ext hB))
    · rcases hG p' hp' with hp' | rfl
      · exact iv.fb _ (.inr ⟨p', L, hp', (old _ _ hp' hL).1, rfl⟩)
      · simp only at hL
        rw [hL₀] at hL; cases hL
        exact .inr (Nat.le_trans iv.fr.size hL₀b)
  · by_cases e : id = base + x.rank
    · subst e; omega
    · rw [hnew id e] at hid; exact iv.new id hid

/-- Memory with some blocks that were made. -/
theorem Inv.mem (iv : Inv P its nf base st nt ρ₀ dfs μ₁ h₁ w₁ S q μ a w) {K : Mem} (org : ∀ id ob, K.bs.get id = some ob → (st q).h.bs.get id = some ob ∨ ∃ p, InG its.length st S q p ∧ p.id = id ∧ p.ob = ob) :
    HR P μ K w := by
  refine ⟨fun id ob hg => ?_, fun id id' ob ob' L L' hg hg' hne h1 h2 => ?_⟩
  · rcases org id ob hg with h | ⟨p, hp, rfl, rfl⟩
    · exact iv.hr.dom id ob h
    · exact iv.gdom p hp
  · rcases org id ob hg with h | ⟨p, hp, rfl, rfl⟩ <;> rcases org id' ob' hg' with h' | ⟨p', hp', rfl, rfl⟩
    · exact iv.hr.inj id id' ob ob' L L' h h' hne h1 h2
    · exact fun e => iv.gsep p' L' hp' h2 (by rw [← e]; exact live_of h h1)
    · exact fun e => iv.gsep p L hp h1 (by rw [e]; exact live_of h' h2)
    · refine iv.ginj p p' L L' hp hp' (fun e => hne ?_) h1 h2
      have := hp.2.2.1
      rw [e, hp'.2.2.1] at this
      cases this; rfl
end
end Go.AE

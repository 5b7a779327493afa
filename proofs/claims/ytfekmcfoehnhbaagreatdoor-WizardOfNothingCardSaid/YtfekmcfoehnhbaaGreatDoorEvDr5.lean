/- Regions that draw their order: the evaluator's answer is the model's. -/
import Derived.Test.YtfekmcfoehnhbaaGreatDoorEvDr4
namespace Go.AE

theorem dstOk_get {nt : Nat} : ∀ {l : List Oper}, dstOk nt l = true → ∀ (i : Nat) (o : Oper), l[i]? = some o → ∀ d, o.dst = some d → d < nt
  | [], _, i, o, h => by simp at h
  | x :: l, hk, i, o, h => by
    obtain ⟨h1, h2⟩ := dstOk_cons hk
    cases i with
    | zero => simp at h; subst h; exact h1
    | succ i => exact dstOk_get h2 i o (by simpa using h)

section
variable {P : Program} {T : Tab} (ok : TabOk P T) {call : CallT} (hcall : CallOk P call) {all : List Oper} {its : List It} {nf base nt : Nat} {s₀ : Sg} {st : Nat → Sg} {ρ₀ : PM Value} {dfs : List Deferred}
  {μ₁ μ μ' : Mu} {h₁ : Mem} {w₁ w w' : World} {S : Array Bool} {q i : Nat} {a : Act} {x : It} {ops : Array Oper} {sts : List Sg}
  (rg : RegOk all its nf) (tr : Tr T call base all its s₀ st) (hst : ∀ i, i ≤ its.length → sts[i]? = some (st i)) (hp0 : s₀.pd = []) (h0 : s₀.ρ = ρ₀)
  (hrd : rdsOk T all sts (rdsGo its its) = true) (hall : ops.toList = all) (hnt : dstOk nt all = true)

theorem mu_same {n : Nat} {h h' : Mem} (p : Post P μ h w μ' h' w') (hn : h.next = n) (hn' : h'.next = n) : μ' = μ := by
  funext id
  exact Classical.byContradiction fun h => by have := p.new id h; omega

include rg in
theorem Inv.window (iv : Inv P its nf base st nt ρ₀ dfs μ₁ h₁ w₁ S q μ a w) (r : Rdy its S i x) : allIt (winOne x q) its = true := by
  refine allIt_of fun c y hy => ?_
  unfold winOne
  cases hc : isChain y.cls with
  | false => rfl
  | true =>
    simp only
    rw [rg.ix c y hy, rg.ix i x r.at_]
    cases hb : Nat.blt c q with
    | true =>
      have hcq : c < q := by simpa [Nat.blt_eq] using hb
      cases hm : y.mask.testBit i with
      | false => rfl
      | true => exact absurd (iv.down c y hy ((iv.ch c y hy hc).2 hcq) i hm) r.not
    | false =>
      have hcq : ¬ c < q := fun h => by rw [← Nat.blt_eq, hb] at h; cases h
      cases hm : x.mask.testBit c with
      | false => rfl
      | true => exact absurd ((iv.ch c y hy hc).1 (r.mask c hm)) hcq

include ok hcall rg tr hst hp0 h0 hrd hall hnt in
/-- One operation, wherever it comes. -/
theorem any_step {Q : Exit → Act → World → Prop} {Kc : Act → World → Prop} (iv : Inv P its nf base st nt ρ₀ dfs μ₁ h₁ w₁ S q μ a w) (r : Rdy its S i x) (ho : ops[i]? = some x.o)
    (hK : ∀ q' μ' a' w', Inv P its nf base st nt ρ₀ dfs μ₁ h₁ w₁ (S.setIfInBounds i true) q' μ' a' w' → Kc a' w') : wpOp P ops Q i Kc a w := by
  have ht := iv.names rg tr h0 r
  have hd : ∀ d, x.o.dst = some d → d < nt := dstOk_get hnt i x.o (rg.o i x r.at_)
  have hil : i ≤ its.length := Nat.le_of_lt r.lt
  unfold wpOp
  rw [ho]
  simp only
  -- what is behind an operation that yields
  have yields : ∀ {h h1 : Mem} {v : Value}, OpOk P μ h w (execOp a.eval x.o) (.value v h1) →
      (∀ μ' v' w', Post P μ h w μ' h1 w' → VR μ' v v' → Kc (a.put x.o.dst v') w') → x.o.wp P a w Kc Q := by
    intro h h1 v ⟨μ', v', w', p, hv, hrun⟩ hk
    unfold Oper.wp
    rcases hrun with hrun | ⟨hrun, rfl⟩
    · rw [hrun]; exact hk μ' v' w' p hv
    · rw [hrun]; exact hk μ' _ w' p hv
  -- operations with an order
  have chainG : ∀ {K : Mem}, K = merge x.mask (st i).pd (st i).h → isChain x.cls = true → (st (i + 1)).made = none → (st (i + 1)).pd = unmerged x.mask (st i).pd →
      HR P μ K w ∧ K.next = (st q).h.next ∧ (∀ B, live μ K B → live μ (st q).h B ∨ ∃ p L, InG its.length st S q p ∧ μ p.id = some L ∧ L.blk = B) ∧
      ∀ p, InG its.length st (S.setIfInBounds i true) (i + 1) p → InG its.length st S q p ∧ ∀ L, μ p.id = some L → ¬ live μ K L.blk := by
    intro K hKe hc hm hpd
    obtain ⟨hqi, hno, _⟩ := iv.next rg r hc
    have hh : (st i).h = (st q).h := tr.same_h i hqi hil hno
    have org : ∀ id ob, K.bs.get id = some ob → (st q).h.bs.get id = some ob ∨ ∃ p, (InG its.length st S q p ∧ x.mask.testBit p.ix = true) ∧ p.id = id ∧ p.ob = ob := fun id ob hg => by
      rw [hKe, hh] at hg
      refine (merge_org hg).imp _root_.id fun ⟨p, hp, hb, h1, h2⟩ => ⟨p, ⟨?_, hb⟩, h1, h2⟩
      obtain ⟨h3, h4⟩ := tr.pd_made rg.ix hp0 i hil p hp
      exact ⟨Nat.lt_of_lt_of_le h3 hil, r.mask _ hb, h4, fun hq => tr.pd_back rg.ix i hqi hil p hp hq⟩
    refine ⟨iv.mem fun id ob hg => (org id ob hg).imp _root_.id fun ⟨p, h1, h2⟩ => ⟨p, h1.1, h2⟩, by rw [hKe, merge_next, hh], fun B ⟨id, ob, L, hg, hL, hB⟩ => ?_, fun p hp => ?_⟩
    · rcases org id ob hg with h | ⟨p, h1, rfl, rfl⟩
      · exact .inl ⟨id, ob, L, h, hL, hB⟩
      · exact .inr ⟨p, L, h1.1, hL, hB⟩
    · obtain ⟨h1, h2, h3, h4⟩ := hp
      have hne : p.ix ≠ i := fun e => by rw [e, hm] at h3; cases h3
      have hG : InG its.length st S q p := ⟨h1, ((Ls_set r.no).1 h2).resolve_right hne, h3, fun hq => by
        have := h4 (by omega)
        rw [hpd, unmerged_mem] at this
        exact tr.pd_back rg.ix i hqi hil p this.1 hq⟩
      refine ⟨hG, fun L hL ⟨id, ob, L', hg, hL', hB⟩ => ?_⟩
      rcases org id ob hg with h | ⟨p', h5, rfl, rfl⟩
      · exact iv.gsep p L hG hL ⟨id, ob, L', h, hL', hB⟩
      · by_cases e : p'.ix = p.ix
        · have hlt : p.ix < i := by
            have hi := (iv.next rg r hc).2.2
            rcases Nat.lt_trichotomy p.ix i with h | h | h
            · exact h
            · exact absurd h hne
            · rw [← e] at h
              obtain ⟨edge, he, hb, hor⟩ := rg.mask i x r.at_ p'.ix h5.2
              have hlt := rg.lt i x r.at_ edge he hb
              exfalso
              -- what stands in a mask comes before
              have : ∀ (n : Nat) (k : Nat) (y : It), k < n → its[k]? = some y → ∀ j, y.mask.testBit j = true → j < k := by
                intro n
                induction n with
                | zero => intro k y hk; omega
                | succ n ih =>
                  intro k y hk hy j hj
                  obtain ⟨edge, he, hb, hor⟩ := rg.mask k y hy j hj
                  have hlt := rg.lt k y hy edge he hb
                  rcases hor with rfl | ⟨z, hz, hzj⟩
                  · exact hlt
                  · exact Nat.lt_trans (ih edge.on z (by omega) hz j hzj) hlt
              have := this (i + 1) i x (by omega) r.at_ p'.ix h5.2
              omega
          have := h4 (by omega)
          rw [hpd, unmerged_mem, ← e] at this
          rw [h5.2] at this
          exact absurd this.2 (by simp)
        · exact iv.ginj p' p L' L h5.1 hG e hL' hL hB
  cases tr.step i x r.at_ with
  | skip g hv hh hm hpd =>
    rw [wanted_ok ht hall g, if_neg (by simp)]
    have hvr : VR μ (st (i + 1)).v undef := by rw [hv]; exact bad_ok
    cases hc : isChain x.cls with
    | false => exact hK q μ _ w (iv.quiet rg r hd hc hm (fun _ => .inr trivial) iv.hr (FR.refl (live μ (st q).h) w) (fun _ h => h) hvr)
    | true =>
      obtain ⟨hqi, hno, _⟩ := iv.next rg r hc
      have hh' : (st (i + 1)).h = (st q).h := hh.trans (tr.same_h i hqi hil hno)
      refine hK (i + 1) μ _ w (iv.chain rg r hd hc (K := (st q).h) rfl (by rw [hh']; exact .refl iv.hr) (fun B h => .inl h) (fun p hp => ?_) hvr)
      obtain ⟨h1, h2, h3, h4⟩ := hp
      have hne : p.ix ≠ i := fun e => by rw [e, hm] at h3; cases h3
      have hG : InG its.length st S q p := ⟨h1, ((Ls_set r.no).1 h2).resolve_right hne, h3, fun hq => by
        have := h4 (by omega)
        rw [hpd] at this
        exact tr.pd_back rg.ix i hqi hil p this hq⟩
      exact ⟨hG, fun L hL => iv.gsep p L hG hL⟩
  | pure g h1 hop hn hc hr hh hm hpd =>
    rw [wanted_ok ht hall g, if_pos rfl]
    refine .inl (yields (op_ok ok (HR.leaf μ base w) ht hop (fun id h3 h4 => by simp only [nextOf] at h3 h4; omega)) fun μ' v' w' p hv => ?_)
    have hmu := mu_same p rfl hn
    subst hmu
    exact hK q _ _ w' (iv.quiet rg r hd hc hm (fun _ => .inr trivial) (iv.hr.frame (.refl _) p.frame fun _ _ => not_live_leaf) p.frame (fun _ h => absurd h not_live_leaf) hv)
  | fresh g h1 ob hop hn hb hf hh hm hpd =>
    rw [wanted_ok ht hall g, if_pos rfl]
    refine .inl (yields (op_ok ok (HR.leaf μ (base + x.rank) w) ht hop (fun id h3 h4 => ?_)) fun μ' v' w' p hv => ?_)
    · simp only [nextOf] at h4
      have : id = base + x.rank := by simp only at h3; omega
      rw [this]; exact iv.un i x r.at_ hf r.not
    · exact hK q _ _ w' (iv.fresh rg r hd hf hm hn hb p hv)
  | read g hr hh hm hpd =>
    rw [wanted_ok ht hall g, if_pos rfl]
    have hxi := rg.ix i x r.at_
    have hrd' := rds_ok hrd _ (rdsGo_mem its its i x r.at_ hr)
    have hcls : clsOf x.o.op = .read := by
      rw [← rg.cls i x r.at_]
      cases hx : x.cls <;> rw [hx] at hr <;> first | rfl | (cases hr)
    have hop := read_ok (z := st q) (q := q) hrd' (by simp only [hxi]; exact hst i hil) (by simp only [hxi]; exact hst (i + 1) r.lt) (hst q iv.ql)
      (qsGo_mem its x its.length q iv.ql iv.bn (iv.window rg r)) g hcls
    simp only at hop
    refine .inl (yields (op_ok ok iv.hr ht hop (iv.nfr.upto _)) fun μ' v' w' p hv => ?_)
    have hmu := mu_same p rfl rfl
    subst hmu
    exact hK q _ _ w' (iv.quiet rg r hd (read_chain hr).1 hm (fun _ => .inr trivial) p.rel p.frame (fun _ h => h) hv)
  | value g hop hc hm hpd =>
    rw [wanted_ok ht hall g, if_pos rfl]
    obtain ⟨k1, k2, k3, k4⟩ := chainG rfl hc hm hpd
    refine .inl (yields (op_ok ok k1 ht hop (by rw [k2]; exact iv.nfr.upto _)) fun μ' v' w' p hv => ?_)
    exact hK (i + 1) _ _ w' (iv.chain rg r hd hc k2 p k3 k4 hv)
  | enter g f args h1 mx hop hcl hc hm hpd =>
    rw [wanted_ok ht hall g, if_pos rfl]
    obtain ⟨k1, k2, k3, k4⟩ := chainG rfl hc hm hpd
    have hnf : NewFrom μ (merge x.mask (st i).pd (st i).h).next := by rw [k2]; exact iv.nfr
    obtain ⟨rfl, args', ha, hrun⟩ := op_ok ok k1 ht hop (hnf.upto _)
    refine .inl ?_
    unfold Oper.wp
    rw [hrun]
    refine Calls.mono (hcall _ _ _ _ _ _ _ hcl μ w args' ha k1 hnf) fun e' w' he => ?_
    obtain ⟨μ', p, hee⟩ := he
    cases hee with
    | returned hv => exact hK (i + 1) _ _ w' (iv.chain rg r hd hc k2 p k3 k4 hv)

include rg tr hp0 h0 in
/-- Where all has run. -/
theorem Inv.done (iv : Inv P its nf base st nt ρ₀ dfs μ₁ h₁ w₁ S q μ a w) (hl : ∀ i, i < its.length → Ls S i) (hn1 : h₁.next = base) :
    Post P μ₁ h₁ w₁ μ (mergeAll (st its.length).pd (st its.length).h) w ∧ TR μ (st its.length).ρ a.tmps ∧ NewFrom μ (mergeAll (st its.length).pd (st its.length).h).next := by
  have hno : ∀ (c : Nat) (y : It), q ≤ c → c < its.length → its[c]? = some y → isChain y.cls = false := fun c y h1 h2 hy => by
    cases hc : isChain y.cls with
    | false => rfl
    | true => have := (iv.ch c y hy hc).1 (hl c h2); omega
  have hh : (st its.length).h = (st q).h := tr.same_h its.length iv.ql (Nat.le_refl _) hno
  have org : ∀ id ob, (mergeAll (st its.length).pd (st its.length).h).bs.get id = some ob → (st q).h.bs.get id = some ob ∨ ∃ p, InG its.length st S q p ∧ p.id = id ∧ p.ob = ob := fun id ob hg => by
    rw [hh] at hg
    refine (mergeAll_org hg).imp _root_.id fun ⟨p, hp, h1, h2⟩ => ⟨p, ?_, h1, h2⟩
    obtain ⟨h3, h4⟩ := tr.pd_made rg.ix hp0 its.length (Nat.le_refl _) p hp
    exact ⟨h3, hl _ h3, h4, fun hq => tr.pd_back rg.ix its.length iv.ql (Nat.le_refl _) p hp hq⟩
  have hnx : (mergeAll (st its.length).pd (st its.length).h).next = (st q).h.next := by rw [mergeAll_next, hh]
  refine ⟨⟨iv.ext, fun id hid => ?_, ?_, iv.mem org, iv.fr, fun B ⟨id, ob, L, hg, hL, hB⟩ => ?_⟩, fun t u ht => ?_, by rw [hnx]; exact iv.nfr⟩
  · rw [hnx, hn1]; exact iv.new id hid
  · rw [hnx, hn1]; have := iv.le; omega
  · rcases org id ob hg with h | ⟨p, h1, rfl, rfl⟩
    · exact iv.fb B (.inl ⟨id, ob, L, h, hL, hB⟩)
    · exact iv.fb B (.inr ⟨p, L, h1, hL, hB⟩)
  · rcases tr.source its.length (Nat.le_refl _) t u ht with ⟨k, hk, hd, rfl, hlast⟩ | ⟨h1, h2⟩
    · exact iv.env1 t k hd (hl k hk) fun j hj hdj => hlast j (by
        obtain ⟨y, hy, _⟩ := hdj
        exact (List.getElem?_eq_some_iff.1 hy).1) hdj
    · rw [h0] at h1
      exact iv.env0 t u (fun j hj hdj => h2 j (by
        obtain ⟨y, hy, _⟩ := hdj
        exact (List.getElem?_eq_some_iff.1 hy).1) hdj) h1

include rg in
theorem Inv.ready (hall : ops.toList = all) (iv : Inv P its nf base st nt ρ₀ dfs μ₁ h₁ w₁ S q μ a w) (hr : Region.ready .any ops S = []) : ∀ i, i < its.length → Ls S i := by
  intro i
  induction i using Nat.strongRecOn with
  | _ i ih =>
    intro hi
    have hx : its[i]? = some its[i] := List.getElem?_eq_getElem hi
    have hS : i < S.size := by rw [iv.size]; exact hi
    unfold Ls
    rw [Array.getElem?_eq_getElem hS]
    cases hb : S[i] with
    | true => rfl
    | false =>
      exfalso
      have : i ∈ Region.ready .any ops S := by
        refine mem_ready.2 ⟨by rw [Array.getD_eq_getD_getElem?, Array.getElem?_eq_getElem hS, hb]; rfl, its[i].o, ?_, fun e he hbd => ?_⟩
        · rw [← Array.getElem?_toList, hall]; exact rg.o i _ hx
        · have hlt := rg.lt i _ hx e (by simpa using he) hbd
          have := ih e.on hlt (by omega)
          unfold Ls at this
          rw [Array.getD_eq_getD_getElem?, this]; rfl
      rw [hr] at this
      cases this

theorem count_set {S : Array Bool} (h : S[i]? = some false) : (S.setIfInBounds i true).toList.count false + 1 = S.toList.count false := by
  have hlt : i < S.size := (Array.getElem?_eq_some_iff.1 h).1
  have hv : S.toList[i]'(by simpa using hlt) = false := by
    have := Array.getElem?_eq_getElem hlt
    rw [h] at this
    simpa using this.symm
  rw [Array.toList_setIfInBounds, List.count_set (by simpa using hlt)]
  have hpos : 0 < S.toList.count false := List.count_pos_iff.2 (hv ▸ List.getElem_mem _)
  simp only [hv]
  rw [if_pos (by rfl), if_neg (by decide)]
  omega

include ok hcall rg tr hst hp0 h0 hrd hall hnt in
theorem any_ok {Q : Exit → Act → World → Prop} (hn1 : h₁.next = base)
    (hQ : ∀ μ a w, a.tmps.size = nt → a.defers = dfs → μ₁.Ext μ → Post P μ₁ h₁ w₁ μ (mergeAll (st its.length).pd (st its.length).h) w → TR μ (st its.length).ρ a.tmps →
      NewFrom μ (mergeAll (st its.length).pd (st its.length).h).next → Q .normal a w) :
    ∀ (fuel : Nat) (S : Array Bool) (q : Nat) (μ : Mu) (a : Act) (w : World), Inv P its nf base st nt ρ₀ dfs μ₁ h₁ w₁ S q μ a w → S.toList.count false = fuel → wpAny P .any ops Q fuel S a w := by
  have fin : ∀ (S : Array Bool) (q : Nat) (μ : Mu) (a : Act) (w : World), Inv P its nf base st nt ρ₀ dfs μ₁ h₁ w₁ S q μ a w → Region.ready .any ops S = [] → Q .normal a w := fun S q μ a w iv hr => by
    obtain ⟨p, t, n⟩ := iv.done rg tr hp0 h0 (iv.ready rg hall hr) hn1
    exact hQ μ a w iv.sz iv.dfs iv.ext p t n
  intro fuel
  induction fuel with
  | zero =>
    intro S q μ a w iv hc
    have hr : Region.ready .any ops S = [] := by
      rw [List.eq_nil_iff_forall_not_mem]
      intro i hi
      obtain ⟨x, r, _⟩ := rdy_of rg hall iv hi
      rw [List.count_eq_zero] at hc
      apply hc
      have := r.no
      rw [← Array.getElem?_toList] at this
      exact List.mem_of_getElem? this
    exact ⟨hr, fin S q μ a w iv hr⟩
  | succ fuel ih =>
    intro S q μ a w iv hc
    refine ⟨fin S q μ a w iv, fun i hi => ?_⟩
    obtain ⟨x, r, ho⟩ := rdy_of rg hall iv hi
    exact any_step ok hcall rg tr hst hp0 h0 hrd hall hnt iv r ho fun q' μ' a' w' iv' => ih _ q' μ' a' w' iv' (by have := count_set r.no; omega)
end

theorem reg_ok {P : Program} {T : Tab} (ok : TabOk P T) {call : CallT} (hcall : CallOk P call) (hmix : P.follows .mixedOrders = true) {all : List Oper} {ops : Array Oper} (hall : ops.toList = all)
    {nt : Nat} (hnt : dstOk nt all = true) {id : Nat} {ρ ρ' : PM Value} {ds ds' : List Deferred} {m m' : Option FrameMode} {h h' : Mem} {e : Ex} {c₀ : Frame} {cs₀ : List Frame} {μ₀ : Mu} {h₀ : Mem} {w₀ : World}
    (hv : regA T call all ρ ds m h (regInfo all) = some (.ex e ρ' ds' m' h')) :
    m'.isSome = m.isSome ∧ ∀ μ a cs w, Post P μ₀ h₀ w₀ μ h w → FrR P nt c₀ cs₀ μ ρ ds m h a cs w →
      W P m.isSome (.region id ops true) (CodePost P nt c₀ cs₀ μ₀ h₀ w₀ e ρ' ds' m' h') a cs w := by
  cases hri : regInfo all with
  | none => rw [hri] at hv; cases hv
  | some ri =>
  rw [hri] at hv
  obtain ⟨rg, hrds⟩ := regInfo_ok hri
  simp only [regA, frN_eq] at hv
  cases ht : trace T call h.next all ri.its ⟨ρ, ⟨h.next + ri.nf, h.bs⟩, bad, none, []⟩ with
  | none => rw [ht] at hv; cases hv
  | some sts =>
  rw [ht] at hv
  simp only [regK] at hv
  cases hrd : rdsOk T all sts ri.rds with
  | false => rw [hrd] at hv; cases hv
  | true =>
  rw [hrd] at hv
  obtain ⟨st, tr, hst⟩ := trace_tr ht
  rw [hst _ (Nat.le_refl _)] at hv
  simp only [regLast, Option.some.injEq, Out.ex.injEq] at hv
  obtain ⟨rfl, rfl, rfl, rfl, rfl⟩ := hv
  refine ⟨rfl, fun μ a cs w p s => W.of_wp (wp_region_any hmix ?_)⟩
  rw [hrds] at hrd
  have p1 : Post P μ h w μ h { w with drawn := w.drawn + 1 } := Post.drawn s.hr _
  have hlen : ops.size = ri.its.length := by rw [rg.len, ← hall]; simp
  refine any_ok (nf := ri.nf) (base := h.next) (nt := nt) (ρ₀ := ρ) (dfs := a.defers) (μ₁ := μ) (h₁ := h) (w₁ := { w with drawn := w.drawn + 1 }) ok hcall rg tr hst rfl rfl hrd hall hnt rfl
    (fun μ' a' w' hsz hdf hext hp htr hnf => ?_) ops.size _ 0 μ a _ ?_ ?_
  · exact ⟨μ', (p.trans p1).trans hp, .normal, ⟨htr, hsz, by rw [hdf]; exact s.ds.mono hext, s.cr.mono hext, hp.rel, hnf⟩⟩
  · have hls : ∀ i, ¬ Ls (Array.replicate ops.size false) i := fun i hi => by
      unfold Ls at hi
      rw [Array.getElem?_replicate] at hi
      split at hi <;> cases hi
    have hG : ∀ p, ¬ InG ri.its.length st (Array.replicate ops.size false) 0 p := fun p hp => hls _ hp.2.1
    have hz := tr.zero
    refine ⟨by simp [hlen], fun i x _ hl => absurd hl (hls i), Nat.zero_le _, rfl, fun c x _ _ => ⟨fun hl => absurd hl (hls c), fun h => by omega⟩, fun t i _ hl => absurd hl (hls i),
      fun t u _ hu => s.tr t u hu, s.sz, rfl, .refl μ, ?_, fun p hp => absurd hp (hG p), fun p p' L L' hp => absurd hp (hG p), fun p L hp => absurd hp (hG p), ?_, ?_, ?_, .refl _ _, ?_, fun id hid => absurd rfl hid⟩
    · rw [hz]; exact ⟨p1.rel.dom, p1.rel.inj⟩
    · rw [hz]; exact fun id hid => s.nf id (by simp only at hid; omega)
    · rw [hz]; exact Nat.le_refl _
    · exact fun i x hx hf _ => s.nf _ (Nat.le_add_right _ _)
    · rintro B (hB | ⟨p, L, hp, _⟩)
      · rw [hz] at hB; exact .inl hB
      · exact absurd hp (hG p)
  · simp
end Go.AE

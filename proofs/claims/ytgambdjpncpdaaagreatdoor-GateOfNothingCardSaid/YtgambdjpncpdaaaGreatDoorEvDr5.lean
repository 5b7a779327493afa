/- Regions that draw their order: the evaluator's answer is the model's. -/
import Derived.Test.YtgambdjpncpdaaaGreatDoorEvDr4
namespace Go.AE

theorem dstOk_get {nt : Nat} : ∀ {l : List Oper}, dstOk nt l = true → ∀ (i : Nat) (o : Oper), l[i]? = some o → ∀ d, o.dst = some d → d < nt
  | [], _, i, o, h => by simp at h
  | x :: l, hk, i, o, h => by
    obtain ⟨h1, h2⟩ := dstOk_cons hk
    cases i with
    | zero => simp at h; subst h; exact h1
    | succ i => exact dstOk_get h2 i o (by simpa using h)

section
variable {P : Program} {T : Tab} (ok : TabOk P T) {call : CallT} (hcall : CallOk P call) {all : List Oper} {its : List It} {nf base nt : Nat} {s₀ : Sg} {st : Nat → Sg} {ρ₀ : PM Value} {dfs : List Deferred}
  {μ₁ μ μ' : Mu} {h₁ : Mem} {w₁ w w' : World} {S : Array Bool} {q i : Nat} {a : Act} {x : It} {ops : Array Oper} {sts : List Sg}
  (rg : RegOk all its nf) (tr : Tr T call base all its s₀ st) (hst : ∀ i, i ≤ its.length → sts[i]? = some (st i)) (hp0 : s₀.pd = []) (h0 : s₀.ρ = ρ₀)
  (hrd : rdsOk T all sts (rdsGo its its) = true) (hall : ops.toList = all) (hnt : dstOk nt all = true)

theorem mu_same {n : Nat} {h h' : Mem} (p : Post P μ h w μ' h' w') (hn : h.next = n) (hn' : h'.next = n) : μ' = μ := by
  funext id
  exact Classical.byContradiction fun h => by have := p.new id h; omega

include rg in
theorem Inv.window (iv : Inv P its nf base st nt ρ₀ dfs μ₁ h₁ w₁ S q μ a w) (r : Rdy its S i x) : allIt (winOne x q) its = true := by
  refine allIt_of fun c y hy => ?_
  unfold winOne
  cases hc : isChain y.cls with
  | false => rfl
  | true =>
    simp only
    rw [rg.ix c y hy, rg.ix i x r.at_]
    cases hb : Nat.blt c q with
    | true =>
      have hcq : c < q := by simpa [Nat.blt_eq] using hb
      cases hm : y.mask.testBit i with
      | false => rfl
      | true => exact absurd (iv.down c y hy ((iv.ch c y hy hc).2 hcq) i hm) r.not
    | false =>
      have hcq : ¬ c < q := fun h => by rw [← Nat.blt_eq, hb] at h; cases h
      cases hm : x.mask.testBit c with
      | false => rfl
      | true => exact absurd ((iv.ch c y hy hc).1 (r.mask c hm)) hcq

include ok hcall rg tr hst hp0 h0 hrd hall hnt in
/-- One operation, wherever it comes. -/
theorem any_step {d : Bool} {c₀ : Frame} {cs₀ cs : List Frame} {Q : Exit → Act → List Frame → World → Prop} {Kc : Act → List Frame → World → Prop} (iv : Inv P its nf base st nt ρ₀ dfs μ₁ h₁ w₁ S q μ a w) (r : Rdy its S i x)
    (ho : ops[i]? = some x.o) (hd0 : s₀.dead = none) (hcr : ClR c₀ cs₀ μ (st q).m cs) (hdm : (st q).m.isSome = d)
    (hdd : ∀ (k : Nat) (y : It) ch, its[k]? = some y → (st k).dead = none → (st (k + 1)).dead = some (y.o.dst, ch) → ¬ Ls S k)
    (hK : (st (i + 1)).dead = none → ∀ q' μ' a' cs' w', Inv P its nf base st nt ρ₀ dfs μ₁ h₁ w₁ (S.setIfInBounds i true) q' μ' a' w' → ClR c₀ cs₀ μ' (st q').m cs' → (st q').m.isSome = d → Kc a' cs' w')
    (hD : ∀ ch, (st i).dead = none → (st (i + 1)).dead = some (x.o.dst, ch) → diesOk x (its.drop (i + 1)) = true → ∀ μ' ch' w', Inv P its nf base st nt ρ₀ dfs μ₁ h₁ w₁ (S.setIfInBounds i true) (i + 1) μ' (a.put x.o.dst undef) w' →
      ClR c₀ cs₀ μ' (st (i + 1)).m cs → ChR μ' ch ch' → Q (.panic ch') a cs w') : OpW P d ops Q i Kc a cs w := by
  have ht := iv.names rg tr h0 r
  have hd : ∀ d, x.o.dst = some d → d < nt := dstOk_get hnt i x.o (rg.o i x r.at_)
  have hil : i ≤ its.length := Nat.le_of_lt r.lt
  -- what is behind an operation that yields
  have yields : ∀ {h h1 : Mem} {v : Value}, Region.wanted x.o (yielded ops a.tmps) = true → OpOk P μ h w (execOp a.eval x.o) (.value v h1) →
      (∀ μ' v' w', Post P μ h w μ' h1 w' → VR μ' v v' → Kc (a.put x.o.dst v') cs w') → OpW P d ops Q i Kc a cs w := by
    intro h h1 v hw ⟨μ', v', w', p, hv, hrun⟩ hk
    rcases hrun with hrun | ⟨hrun, rfl⟩
    · exact OpsW.value ho hw hrun (.nil (hk μ' v' w' p hv))
    · exact OpsW.skipped ho hw hrun (.nil (hk μ' _ w' p hv))
  -- operations with an order
  have chainG : ∀ {K : Mem}, K = merge x.mask (st i).pd (st i).h → isChain x.cls = true → (st (i + 1)).made = none → (st (i + 1)).pd = unmerged x.mask (st i).pd →
      HR P μ K w ∧ K.next = (st q).h.next ∧ (∀ B, live μ K B → live μ (st q).h B ∨ ∃ p L, InG its.length st S q p ∧ μ p.id = some L ∧ L.blk = B) ∧
      ∀ p, InG its.length st (S.setIfInBounds i true) (i + 1) p → InG its.length st S q p ∧ ∀ L, μ p.id = some L → ¬ live μ K L.blk := by
    intro K hKe hc hm hpd
    obtain ⟨hqi, hno, _⟩ := iv.next rg r hc
    have hh : (st i).h = (st q).h := tr.same_h i hqi hil hno
    have org : ∀ id ob, K.bs.get id = some ob → (st q).h.bs.get id = some ob ∨ ∃ p, (InG its.length st S q p ∧ x.mask.testBit p.ix = true) ∧ p.id = id ∧ p.ob = ob := fun id ob hg => by
      rw [hKe, hh] at hg
      refine (merge_org hg).imp _root_.id fun ⟨p, hp, hb, h1, h2⟩ => ⟨p, ⟨?_, hb⟩, h1, h2⟩
      obtain ⟨h3, h4⟩ := tr.pd_made rg.ix hp0 i hil p hp
      exact ⟨Nat.lt_of_lt_of_le h3 hil, r.mask _ hb, h4, fun hq => tr.pd_back rg.ix i hqi hil p hp hq⟩
    refine ⟨iv.mem fun id ob hg => (org id ob hg).imp _root_.id fun ⟨p, h1, h2⟩ => ⟨p, h1.1, h2⟩, by rw [hKe, merge_next, hh], fun B ⟨id, ob, L, hg, hL, hB⟩ => ?_, fun p hp => ?_⟩
    · rcases org id ob hg with h | ⟨p, h1, rfl, rfl⟩
      · exact .inl ⟨id, ob, L, h, hL, hB⟩
      · exact .inr ⟨p, L, h1.1, hL, hB⟩
    · obtain ⟨h1, h2, h3, h4⟩ := hp
      have hne : p.ix ≠ i := fun e => by rw [e, hm] at h3; cases h3
      have hG : InG its.length st S q p := ⟨h1, ((Ls_set r.no).1 h2).resolve_right hne, h3, fun hq => by
        have := h4 (by omega)
        rw [hpd, unmerged_mem] at this
        exact tr.pd_back rg.ix i hqi hil p this.1 hq⟩
      refine ⟨hG, fun L hL ⟨id, ob, L', hg, hL', hB⟩ => ?_⟩
      rcases org id ob hg with h | ⟨p', h5, rfl, rfl⟩
      · exact iv.gsep p L hG hL ⟨id, ob, L', h, hL', hB⟩
      · by_cases e : p'.ix = p.ix
        · have hlt : p.ix < i := by
            have hi := (iv.next rg r hc).2.2
            rcases Nat.lt_trichotomy p.ix i with h | h | h
            · exact h
            · exact absurd h hne
            · rw [← e] at h
              obtain ⟨edge, he, hb, hor⟩ := rg.mask i x r.at_ p'.ix h5.2
              have hlt := rg.lt i x r.at_ edge he hb
              exfalso
              -- what stands in a mask comes before
              have : ∀ (n : Nat) (k : Nat) (y : It), k < n → its[k]? = some y → ∀ j, y.mask.testBit j = true → j < k := by
                intro n
                induction n with
                | zero => intro k y hk; omega
                | succ n ih =>
                  intro k y hk hy j hj
                  obtain ⟨edge, he, hb, hor⟩ := rg.mask k y hy j hj
                  have hlt := rg.lt k y hy edge he hb
                  rcases hor with rfl | ⟨z, hz, hzj⟩
                  · exact hlt
                  · exact Nat.lt_trans (ih edge.on z (by omega) hz j hzj) hlt
              have := this (i + 1) i x (by omega) r.at_ p'.ix h5.2
              omega
          have := h4 (by omega)
          rw [hpd, unmerged_mem, ← e] at this
          rw [h5.2] at this
          exact absurd this.2 (by simp)
        · exact iv.ginj p' p L' L h5.1 hG e hL' hL hB
  -- the caller's mode, where an operation with an order comes
  have modeI : isChain x.cls = true → (st i).m = (st q).m := fun hc => by
    obtain ⟨hqi, hno, _⟩ := iv.next rg r hc
    exact tr.same_m i hqi hil hno
  cases tr.step i x r.at_ with
  | past hdead hv hh hm hpd hl hu =>
    exfalso
    obtain ⟨k, y, ch, h1, h2, h3, h4, h5, _⟩ := tr.died hd0 i hil hdead
    refine hdd k y ch h2 h3 h4 (r.mask k ?_)
    unfold diesOk at h5
    cases hb : Nat.beq y.mask (Nat.pred (2 ^ y.ix)) with
    | false => rw [hb] at h5; cases h5
    | true =>
      rw [hb] at h5
      simp only at h5
      rw [rg.ix k y h2] at h5
      have := allBit_get h5 (i - (k + 1)) x (by rw [List.getElem?_drop, show k + 1 + (i - (k + 1)) = i by omega]; exact r.at_)
      exact this
  | skip g hv hh hm hpd hl hu =>
    have hw : Region.wanted x.o (yielded ops a.tmps) = false := wanted_ok ht hall g
    have hvr : VR μ (st (i + 1)).v undef := by rw [hv]; exact bad_ok
    refine OpsW.skip ho hw (.nil ?_)
    cases hc : isChain x.cls with
    | false => exact hK hl q μ _ cs w (iv.quiet rg r hd hc hm (fun _ => .inr trivial) iv.hr (FR.refl (live μ (st q).h) w) (fun _ h => h) hvr) hcr hdm
    | true =>
      obtain ⟨hqi, hno, _⟩ := iv.next rg r hc
      have hh' : (st (i + 1)).h = (st q).h := hh.trans (tr.same_h i hqi hil hno)
      have hmm : (st (i + 1)).m = (st q).m := hu.trans (modeI hc)
      refine hK hl (i + 1) μ _ cs w (iv.chain rg r hd hc (K := (st q).h) rfl (by rw [hh']; exact .refl iv.hr) (fun B h => .inl h) (fun p hp => ?_) hvr) (by rw [hmm]; exact hcr) (by rw [hmm]; exact hdm)
      obtain ⟨h1, h2, h3, h4⟩ := hp
      have hne : p.ix ≠ i := fun e => by rw [e, hm] at h3; cases h3
      have hG : InG its.length st S q p := ⟨h1, ((Ls_set r.no).1 h2).resolve_right hne, h3, fun hq => by
        have := h4 (by omega)
        rw [hpd] at this
        exact tr.pd_back rg.ix i hqi hil p this hq⟩
      exact ⟨hG, fun L hL => iv.gsep p L hG hL⟩
  | pure g h1 hop hn hc hr hh hm hpd hl hu =>
    refine yields (wanted_ok ht hall g) (op_ok ok (HR.leaf μ base w) ht hop (fun id h3 h4 => by simp only [nextOf] at h3 h4; omega)) fun μ' v' w' p hv => ?_
    have hmu := mu_same p rfl hn
    subst hmu
    exact hK hl q _ _ cs w' (iv.quiet rg r hd hc hm (fun _ => .inr trivial) (iv.hr.frame (.refl _) p.frame fun _ _ => not_live_leaf) p.frame (fun _ h => absurd h not_live_leaf) hv) hcr hdm
  | fresh g h1 ob hop hn hb hf hh hm hpd hl hu =>
    refine yields (wanted_ok ht hall g) (op_ok ok (HR.leaf μ (base + x.rank) w) ht hop (fun id h3 h4 => ?_)) fun μ' v' w' p hv => ?_
    · simp only [nextOf] at h4
      have : id = base + x.rank := by simp only at h3; omega
      rw [this]; exact iv.un i x r.at_ hf r.not
    · exact hK hl q _ _ cs w' (iv.fresh rg r hd hf hm hn hb p hv) (hcr.mono p.ext) hdm
  | read g hr hdead hh hm hpd hl hu =>
    have hxi := rg.ix i x r.at_
    have hrd' := rds_ok hrd _ (rdsGo_mem its its i x r.at_ hr)
    have hcls : clsOf x.o.op = .read := by
      rw [← rg.cls i x r.at_]
      cases hx : x.cls <;> rw [hx] at hr <;> first | rfl | (cases hr)
    have hop := read_ok (z := st q) (q := q) hrd' (by simp only [hxi]; exact hst i hil) (by simp only [hxi]; exact hst (i + 1) r.lt) hdead (hst q iv.ql)
      (qsGo_mem its x its.length q iv.ql iv.bn (iv.window rg r)) g hcls
    simp only at hop
    refine yields (wanted_ok ht hall g) (op_ok ok iv.hr ht hop (iv.nfr.upto _)) fun μ' v' w' p hv => ?_
    have hmu := mu_same p rfl rfl
    subst hmu
    exact hK hl q _ _ cs w' (iv.quiet rg r hd (read_chain hr).1 hm (fun _ => .inr trivial) p.rel p.frame (fun _ h => h) hv) hcr hdm
  | value g hop hc hm hpd hl hu =>
    obtain ⟨k1, k2, k3, k4⟩ := chainG rfl hc hm hpd
    have hmm : (st (i + 1)).m = (st q).m := hu.trans (modeI hc)
    refine yields (wanted_ok ht hall g) (op_ok ok k1 ht hop (by rw [k2]; exact iv.nfr.upto _)) fun μ' v' w' p hv => ?_
    exact hK hl (i + 1) _ _ cs w' (iv.chain rg r hd hc k2 p k3 k4 hv) (by rw [hmm]; exact hcr.mono p.ext) (by rw [hmm]; exact hdm)
  | enter g f args h1 mx hop hcl hc hm hpd hl hu =>
    obtain ⟨k1, k2, k3, k4⟩ := chainG rfl hc hm hpd
    have hmm : (st (i + 1)).m = (st q).m := hu.trans (modeI hc)
    have hnf : NewFrom μ (merge x.mask (st i).pd (st i).h).next := by rw [k2]; exact iv.nfr
    obtain ⟨rfl, args', ha, hrun⟩ := op_ok ok k1 ht hop (hnf.upto _)
    refine OpsW.enter ho (wanted_ok ht hall g) hrun (Calls.mono (hcall _ _ _ _ _ _ _ hcl μ w args' ha k1 hnf) fun e' w' he => ?_)
    obtain ⟨μ', p, hee⟩ := he
    cases hee with
    | returned hv => exact .nil (hK hl (i + 1) _ _ cs w' (iv.chain rg r hd hc k2 p k3 k4 hv) (by rw [hmm]; exact hcr.mono p.ext) (by rw [hmm]; exact hdm))
  | die g f args h1 mx ch hop hcl hc hm hpd hbad hl hlast hu hdead =>
    obtain ⟨k1, k2, k3, k4⟩ := chainG rfl hc hm hpd
    have hmm : (st (i + 1)).m = (st q).m := hu.trans (modeI hc)
    have hnf : NewFrom μ (merge x.mask (st i).pd (st i).h).next := by rw [k2]; exact iv.nfr
    obtain ⟨rfl, args', ha, hrun⟩ := op_ok ok k1 ht hop (hnf.upto _)
    refine OpsW.enter ho (wanted_ok ht hall g) hrun (Calls.mono (hcall _ _ _ _ _ _ _ hcl μ w args' ha k1 hnf) fun e' w' he => ?_)
    obtain ⟨μ', p, hee⟩ := he
    cases hee with
    | panicked hch => exact hD ch hdead hl hlast μ' _ w' (iv.chain rg r hd hc k2 p k3 k4 (by rw [hbad]; exact bad_ok)) (by rw [hmm]; exact hcr.mono p.ext) hch
  | throws g u hop hc hm hpd hbad hl hlast hu hdead =>
    obtain ⟨k1, k2, k3, k4⟩ := chainG rfl hc hm hpd
    have hmm : (st (i + 1)).m = (st q).m := hu.trans (modeI hc)
    have hnf : NewFrom μ (merge x.mask (st i).pd (st i).h).next := by rw [k2]; exact iv.nfr
    obtain ⟨hh1, u', hu', hrun⟩ := op_ok ok k1 ht hop (hnf.upto _)
    exact OpsW.panic ho (wanted_ok ht hall g) hrun
      (hD _ hdead hl hlast μ [{ v := u', recovered := false }] w (iv.chain rg r hd hc k2 (by rw [hh1]; exact .refl k1) k3 k4 (by rw [hbad]; exact bad_ok)) (by rw [hmm]; exact hcr) (.cons hu' .nil))
  | catch_ g u hop hrec hc hh hm hpd hl hu =>
    obtain ⟨k1, k2, k3, k4⟩ := chainG rfl hc hm hpd
    have hnf : NewFrom μ (merge x.mask (st i).pd (st i).h).next := by rw [k2]; exact iv.nfr
    have hrun : (execOp a.eval x.o).run P w = .ok .recover w := op_ok ok k1 ht hop (hnf.upto _)
    rw [modeI hc] at hrec
    cases hmq : (st q).m with
    | none => rw [hmq] at hrec; cases hrec
    | some v₀ =>
      rw [hmq] at hrec hcr hdm
      have hdt : d = true := by rw [← hdm]; rfl
      subst hdt
      have fin : ∀ (cs' : List Frame) (v' : Value), VR μ (st (i + 1)).v v' → ClR c₀ cs₀ μ (some u) cs' → Kc (a.put x.o.dst v') cs' w := fun cs' v' hv hc' =>
        hK hl (i + 1) μ _ cs' w (iv.chain rg r hd hc k2 (by rw [hh]; exact .refl k1) k3 k4 hv) (by rw [hu]; exact hc') (by rw [hu]; rfl)
      refine OpsW.recover ho (wanted_ok ht hall g) hrun ?_
      rcases recover_ok hrec hcr with ⟨v', cs', h1, h2, h3⟩ | ⟨h1, h2, h3⟩
      · rw [h1]; exact .nil (fin cs' v' h2 h3)
      · rw [h1]; exact .nil (fin cs _ (by rw [h2]; exact .nilIface) h3)

include rg tr hp0 h0 in
/-- Where the operations ahead of one place have run, and no others. -/
theorem Inv.done (iv : Inv P its nf base st nt ρ₀ dfs μ₁ h₁ w₁ S q μ a w) {k : Nat} (hk : k ≤ its.length) (hqk : q ≤ k) (hl : ∀ i, i < k → Ls S i) (hn : ∀ i, k ≤ i → i < its.length → ¬ Ls S i) (hn1 : h₁.next = base) :
    Post P μ₁ h₁ w₁ μ (mergeAll (st k).pd (st k).h) w ∧ TR μ (st k).ρ a.tmps ∧ NewFrom μ (mergeAll (st k).pd (st k).h).next ∧ (st k).m = (st q).m := by
  have hno : ∀ (c : Nat) (y : It), q ≤ c → c < k → its[c]? = some y → isChain y.cls = false := fun c y h1 h2 hy => by
    cases hc : isChain y.cls with
    | false => rfl
    | true => have := (iv.ch c y hy hc).1 (hl c h2); omega
  have hlt : ∀ j, Ls S j → j < its.length := fun j hj => by
    unfold Ls at hj
    have := (Array.getElem?_eq_some_iff.1 hj).1
    rw [iv.size] at this
    exact this
  have hh : (st k).h = (st q).h := tr.same_h k hqk hk hno
  have org : ∀ id ob, (mergeAll (st k).pd (st k).h).bs.get id = some ob → (st q).h.bs.get id = some ob ∨ ∃ p, InG its.length st S q p ∧ p.id = id ∧ p.ob = ob := fun id ob hg => by
    rw [hh] at hg
    refine (mergeAll_org hg).imp _root_.id fun ⟨p, hp, h1, h2⟩ => ⟨p, ?_, h1, h2⟩
    obtain ⟨h3, h4⟩ := tr.pd_made rg.ix hp0 k hk p hp
    exact ⟨by omega, hl _ h3, h4, fun hq => tr.pd_back rg.ix k hqk hk p hp hq⟩
  have hnx : (mergeAll (st k).pd (st k).h).next = (st q).h.next := by rw [mergeAll_next, hh]
  have before : ∀ j, Ls S j → j < k := fun j hj => by
    rcases Nat.lt_or_ge j k with x | x
    · exact x
    · exact absurd hj (hn j x (hlt j hj))
  refine ⟨⟨iv.ext, fun id hid => ?_, ?_, iv.mem org, iv.fr, fun B ⟨id, ob, L, hg, hL, hB⟩ => ?_⟩, fun t u ht => ?_, by rw [hnx]; exact iv.nfr, tr.same_m k hqk hk hno⟩
  · rw [hnx, hn1]; exact iv.new id hid
  · rw [hnx, hn1]; have := iv.le; omega
  · rcases org id ob hg with h | ⟨p, h1, rfl, rfl⟩
    · exact iv.fb B (.inl ⟨id, ob, L, h, hL, hB⟩)
    · exact iv.fb B (.inr ⟨p, L, h1, hL, hB⟩)
  · rcases tr.source k hk t u ht with ⟨i, hi, hd, rfl, hlast⟩ | ⟨h1, h2⟩
    · exact iv.env1 t i hd (hl i hi) fun j hj hdj => hlast j (before j hj) hdj
    · rw [h0] at h1
      exact iv.env0 t u (fun j hj hdj => h2 j (before j hj) hdj) h1

include rg in
theorem Inv.ready (hall : ops.toList = all) (iv : Inv P its nf base st nt ρ₀ dfs μ₁ h₁ w₁ S q μ a w) (hr : Region.ready .any ops S = []) : ∀ i, i < its.length → Ls S i := by
  intro i
  induction i using Nat.strongRecOn with
  | _ i ih =>
    intro hi
    have hx : its[i]? = some its[i] := List.getElem?_eq_getElem hi
    have hS : i < S.size := by rw [iv.size]; exact hi
    unfold Ls
    rw [Array.getElem?_eq_getElem hS]
    cases hb : S[i] with
    | true => rfl
    | false =>
      exfalso
      have : i ∈ Region.ready .any ops S := by
        refine mem_ready.2 ⟨by rw [Array.getD_eq_getD_getElem?, Array.getElem?_eq_getElem hS, hb]; rfl, its[i].o, ?_, fun e he hbd => ?_⟩
        · rw [← Array.getElem?_toList, hall]; exact rg.o i _ hx
        · have hlt := rg.lt i _ hx e (by simpa using he) hbd
          have := ih e.on hlt (by omega)
          unfold Ls at this
          rw [Array.getD_eq_getD_getElem?, this]; rfl
      rw [hr] at this
      cases this

theorem count_set {S : Array Bool} (h : S[i]? = some false) : (S.setIfInBounds i true).toList.count false + 1 = S.toList.count false := by
  have hlt : i < S.size := (Array.getElem?_eq_some_iff.1 h).1
  have hv : S.toList[i]'(by simpa using hlt) = false := by
    have := Array.getElem?_eq_getElem hlt
    rw [h] at this
    simpa using this.symm
  rw [Array.toList_setIfInBounds, List.count_set (by simpa using hlt)]
  have hpos : 0 < S.toList.count false := List.count_pos_iff.2 (hv ▸ List.getElem_mem _)
  simp only [hv]
  rw [if_pos (by rfl), if_neg (by decide)]
  omega

include ok hcall rg tr hst hp0 h0 hrd hall hnt in
theorem any_ok {d : Bool} {c₀ : Frame} {cs₀ : List Frame} {Q : Exit → Act → List Frame → World → Prop} (hd0 : s₀.dead = none) (hn1 : h₁.next = base)
    (hQ : (st its.length).dead = none → ∀ μ a cs w, a.tmps.size = nt → a.defers = dfs → μ₁.Ext μ → Post P μ₁ h₁ w₁ μ (mergeAll (st its.length).pd (st its.length).h) w → TR μ (st its.length).ρ a.tmps →
      NewFrom μ (mergeAll (st its.length).pd (st its.length).h).next → ClR c₀ cs₀ μ (st its.length).m cs → Q .normal a cs w)
    (hD : ∀ k t ch, k ≤ its.length → (∀ j, j < k → (st j).dead = none) → (st k).dead = some (t, ch) → ∀ μ a cs w ch', a.tmps.size = nt → a.defers = dfs → μ₁.Ext μ → Post P μ₁ h₁ w₁ μ (mergeAll (st k).pd (st k).h) w →
      TR μ (st k).ρ (a.put t undef).tmps → NewFrom μ (mergeAll (st k).pd (st k).h).next → ClR c₀ cs₀ μ (st k).m cs → ChR μ ch ch' → Q (.panic ch') a cs w) :
    ∀ (fuel : Nat) (S : Array Bool) (q : Nat) (μ : Mu) (a : Act) (cs : List Frame) (w : World), Inv P its nf base st nt ρ₀ dfs μ₁ h₁ w₁ S q μ a w → ClR c₀ cs₀ μ (st q).m cs → (st q).m.isSome = d →
      (∀ (k : Nat) (y : It) ch, its[k]? = some y → (st k).dead = none → (st (k + 1)).dead = some (y.o.dst, ch) → ¬ Ls S k) → S.toList.count false = fuel → AnyW P d ops Q fuel S a cs w := by
  have fin : ∀ (S : Array Bool) (q : Nat) (μ : Mu) (a : Act) (cs : List Frame) (w : World), Inv P its nf base st nt ρ₀ dfs μ₁ h₁ w₁ S q μ a w → ClR c₀ cs₀ μ (st q).m cs →
      (∀ (k : Nat) (y : It) ch, its[k]? = some y → (st k).dead = none → (st (k + 1)).dead = some (y.o.dst, ch) → ¬ Ls S k) → Region.ready .any ops S = [] → Q .normal a cs w := fun S q μ a cs w iv hcr hdd hr => by
    have hall' := iv.ready rg hall hr
    have hdead : (st its.length).dead = none := Classical.byContradiction fun hne => by
      obtain ⟨i, x, ch, h1, h2, h3, h4, _, _⟩ := tr.died hd0 its.length (Nat.le_refl _) hne
      exact hdd i x ch h2 h3 h4 (hall' i h1)
    obtain ⟨p, t, n, hm⟩ := iv.done rg tr hp0 h0 (Nat.le_refl _) iv.ql hall' (fun i h1 h2 => by omega) hn1
    exact hQ hdead μ a cs w iv.sz iv.dfs iv.ext p t n (by rw [hm]; exact hcr)
  intro fuel
  induction fuel with
  | zero =>
    intro S q μ a cs w iv hcr hdm hdd hc
    have hr : Region.ready .any ops S = [] := by
      rw [List.eq_nil_iff_forall_not_mem]
      intro i hi
      obtain ⟨x, r, _⟩ := rdy_of rg hall iv hi
      rw [List.count_eq_zero] at hc
      apply hc
      have := r.no
      rw [← Array.getElem?_toList] at this
      exact List.mem_of_getElem? this
    exact ⟨hr, fin S q μ a cs w iv hcr hdd hr⟩
  | succ fuel ih =>
    intro S q μ a cs w iv hcr hdm hdd hc
    refine ⟨fin S q μ a cs w iv hcr hdd, fun i hi => ?_⟩
    obtain ⟨x, r, ho⟩ := rdy_of rg hall iv hi
    refine any_step ok hcall rg tr hst hp0 h0 hrd hall hnt iv r ho hd0 hcr hdm hdd (fun hl q' μ' a' cs' w' iv' hcr' hdm' => ih _ q' μ' a' cs' w' iv' hcr' hdm' (fun k y ch hy h1 h2 h3 => ?_) (by have := count_set r.no; omega))
      fun ch hdead hl hlast μ' ch' w' iv' hcr' hch => ?_
    · rcases (Ls_set r.no).1 h3 with h3 | h3
      · exact hdd k y ch hy h1 h2 h3
      · subst h3
        rw [hl] at h2; cases h2
    · unfold diesOk at hlast
      have hix := rg.ix i x r.at_
      cases hb : Nat.beq x.mask (Nat.pred (2 ^ x.ix)) with
      | false => rw [hb] at hlast; cases hlast
      | true =>
      rw [hb] at hlast
      simp only at hlast
      have hm := Nat.eq_of_beq_eq_true hb
      have hbit : ∀ j, j < i → x.mask.testBit j = true := fun j hj => by
        rw [hm, hix]
        show (2 ^ i - 1).testBit j = true
        rw [Nat.testBit_two_pow_sub_one]
        simp [hj]
      have hall' : ∀ j, j < i + 1 → Ls (S.setIfInBounds i true) j := fun j hj => by
        rw [Ls_set r.no]
        by_cases e : j = i
        · exact .inr e
        · exact .inl (r.mask j (hbit j (by omega)))
      have hnot : ∀ j, i + 1 ≤ j → j < its.length → ¬ Ls (S.setIfInBounds i true) j := fun j h1 h2 hj => by
        rcases (Ls_set r.no).1 hj with hj | hj
        · have hy : its[j]? = some its[j] := List.getElem?_eq_getElem h2
          rw [hix] at hlast
          have := allBit_get hlast (j - (i + 1)) its[j] (by rw [List.getElem?_drop, show i + 1 + (j - (i + 1)) = j by omega]; exact hy)
          exact r.not (iv.down j _ hy hj i this)
        · omega
      obtain ⟨p, t, n, _⟩ := iv'.done rg tr hp0 h0 r.lt (Nat.le_refl _) hall' hnot hn1
      have hsz := iv'.sz
      rw [Act.put_size] at hsz
      have hdf := iv'.dfs
      rw [Act.put_dfs] at hdf
      refine hD (i + 1) _ ch r.lt (fun j hj => ?_) hl μ' a cs w' ch' hsz hdf iv'.ext p t n hcr' hch
      refine Classical.byContradiction fun hne => ?_
      obtain ⟨k, y, ch2, h1, h2, h3, h4, h5, _⟩ := tr.died hd0 j (by have := r.lt; omega) hne
      exact hdd k y ch2 h2 h3 h4 (r.mask k (hbit k (by omega)))
end

theorem TR_del {μ : Mu} {ρ : PM Value} {a : Act} {v : Value} : ∀ {d : Option Tmp}, TR μ ρ (a.put d v).tmps → TR μ (delD ρ d) a.tmps
  | none, h => h
  | some d, h => fun t u ht => by
    simp only [delD, PM.del_get] at ht
    by_cases e : t = d
    · rw [if_pos e] at ht; cases ht
    · rw [if_neg e] at ht
      obtain ⟨v', h1, h2⟩ := h t u ht
      refine ⟨v', ?_, h2⟩
      rw [← h1]
      simp only [Act.put]
      rw [Array.getElem?_setIfInBounds_ne (fun x => e x.symm)]


theorem regPick_ok : ∀ {sts : List Sg} {z : Sg}, regPick sts = some z → (sts.getLast? = some z ∧ (∀ s ∈ sts, s.dead ≠ none → s = z) ∧ z.dead = none) ∨
    ∃ k : Nat, sts[k]? = some z ∧ z.dead ≠ none ∧ ∀ j, j < k → ∀ y : Sg, sts[j]? = some y → y.dead = none
  | [], z, h => by cases h
  | s :: l, z, h => by
    unfold regPick at h
    cases hd : s.dead with
    | some p =>
      rw [hd] at h; cases h
      exact .inr ⟨0, rfl, by rw [hd]; simp, fun j hj => by omega⟩
    | none =>
      rw [hd] at h
      cases l with
      | nil =>
        cases h
        exact .inl ⟨rfl, fun y hy hne => by simp at hy; exact hy, hd⟩
      | cons y l =>
        simp only at h
        rcases regPick_ok h with ⟨h1, h2, h3⟩ | ⟨k, h1, h2, h3⟩
        · refine .inl ⟨by rw [List.getLast?_cons_cons]; exact h1, fun x hx hne => ?_, h3⟩
          rcases List.mem_cons.1 hx with e | e
          · subst e; exact absurd hd hne
          · exact h2 x e hne
        · refine .inr ⟨k + 1, h1, h2, fun j hj x hx => ?_⟩
          cases j with
          | zero => simp at hx; subst hx; exact hd
          | succ j => exact h3 j (by omega) x (by simpa using hx)

theorem reg_ok {P : Program} {T : Tab} (ok : TabOk P T) {call : CallT} (hcall : CallOk P call) (hmix : P.follows .mixedOrders = true) {all : List Oper} {ops : Array Oper} (hall : ops.toList = all)
    {nt : Nat} (hnt : dstOk nt all = true) {id : Nat} {ρ ρ' : PM Value} {ds ds' : List Deferred} {m m' : Option FrameMode} {h h' : Mem} {e : Ex} {c₀ : Frame} {cs₀ : List Frame} {μ₀ : Mu} {h₀ : Mem} {w₀ : World}
    (hv : regA T call all ρ ds m h (regInfo all) = some (.ex e ρ' ds' m' h')) :
    m'.isSome = m.isSome ∧ ∀ μ a cs w, Post P μ₀ h₀ w₀ μ h w → FrR P nt c₀ cs₀ μ ρ ds m h a cs w →
      W P m.isSome (.region id ops true) (CodePost P nt c₀ cs₀ μ₀ h₀ w₀ e ρ' ds' m' h') a cs w := by
  cases hri : regInfo all with
  | none => rw [hri] at hv; cases hv
  | some ri =>
  rw [hri] at hv
  obtain ⟨rg, hrds⟩ := regInfo_ok hri
  simp only [regA, frN_eq] at hv
  cases ht : trace T call h.next all ri.its ⟨ρ, ⟨h.next + ri.nf, h.bs⟩, bad, none, [], none, m⟩ with
  | none => rw [ht] at hv; cases hv
  | some sts =>
  rw [ht] at hv
  simp only [regK] at hv
  cases hrd : rdsOk T all sts ri.rds with
  | false => rw [hrd] at hv; cases hv
  | true =>
  rw [hrd] at hv
  simp only at hv
  have hlenS := (trace_get ht).1
  obtain ⟨st, tr, hst⟩ := trace_tr ht
  cases hpk : regPick sts with
  | none => rw [hpk] at hv; cases hv
  | some z =>
  rw [hpk] at hv
  simp only [regLast] at hv
  -- the modes
  have hms : ∀ k, k ≤ ri.its.length → (st k).m.isSome = m.isSome := by
    intro k
    induction k with
    | zero => intro _; rw [tr.zero]
    | succ k ih =>
      intro hk
      have hx : ri.its[k]? = some (ri.its[k]'(by omega)) := List.getElem?_eq_getElem (by omega)
      have := ih (by omega)
      cases tr.step k _ hx with
      | catch_ g u ho hrec hc hh hm hp' hl hu =>
        rw [hu]
        cases hmk : (st k).m with
        | none => rw [hmk] at hrec; cases hrec
        | some v => rw [hmk] at this; rw [← this]; rfl
      | skip g hv hh hm hp' hl hu => rw [hu]; exact this
      | past hd hv hh hm hp' hl hu => rw [hu]; exact this
      | pure g h1 ho hn hc hr hh hm hp' hl hu => rw [hu]; exact this
      | read g hr hd hh hm hp' hl hu => rw [hu]; exact this
      | fresh g h1 ob ho hn hb hf hh hm hp' hl hu => rw [hu]; exact this
      | value g ho hc hm hp' hl hu => rw [hu]; exact this
      | enter g f args h1 mx ho hcall hc hm hp' hl hu => rw [hu]; exact this
      | die g f args h1 mx ch ho hcall hc hm hp' hv hl hlast hu hd => rw [hu]; exact this
      | throws g u ho hc hm hp' hv hl hlast hu hd => rw [hu]; exact this
  have hout : (e = .normal ∧ ρ' = z.ρ ∧ z.dead = none ∧ z = st ri.its.length ∨ ∃ k t ch, k ≤ ri.its.length ∧ z = st k ∧ (st k).dead = some (t, ch) ∧ (∀ j, j < k → (st j).dead = none) ∧ e = .panic ch ∧ ρ' = delD z.ρ t) ∧
      ds' = ds ∧ m' = z.m ∧ h' = mergeAll z.pd z.h := by
    rcases regPick_ok hpk with ⟨h1, h2, h3⟩ | ⟨k, h1, h2, h3⟩
    · rw [h3] at hv
      simp only [regEnd, Option.some.injEq, Out.ex.injEq] at hv
      obtain ⟨rfl, rfl, rfl, rfl, rfl⟩ := hv
      refine ⟨.inl ⟨rfl, rfl, h3, ?_⟩, rfl, rfl, rfl⟩
      rw [List.getLast?_eq_getElem?, hlenS] at h1
      have := hst _ (Nat.le_refl ri.its.length)
      rw [show ri.its.length + 1 - 1 = ri.its.length by omega, this] at h1
      exact (Option.some.inj h1).symm
    · have hk : k ≤ ri.its.length := by
        have := (List.getElem?_eq_some_iff.1 h1).1
        omega
      have hzk : z = st k := by rw [hst k hk] at h1; exact (Option.some.inj h1).symm
      cases hzd : z.dead with
      | none => exact absurd hzd h2
      | some p =>
        obtain ⟨t, ch⟩ := p
        rw [hzd] at hv
        simp only [regEnd, Option.some.injEq, Out.ex.injEq] at hv
        obtain ⟨rfl, rfl, rfl, rfl, rfl⟩ := hv
        exact ⟨.inr ⟨k, t, ch, hk, hzk, by rw [← hzk]; exact hzd, fun j hj => h3 j hj _ (hst j (by omega)), rfl, rfl⟩, rfl, rfl, rfl⟩
  obtain ⟨hcase, rfl, rfl, rfl⟩ := hout
  have hzm : z.m.isSome = m.isSome := by
    rcases hcase with ⟨_, _, _, rfl⟩ | ⟨k, _, _, hk, rfl, _⟩
    · exact hms _ (Nat.le_refl _)
    · exact hms k hk
  refine ⟨hzm, fun μ a cs w p s => W.region_any hmix ?_⟩
  rw [hrds] at hrd
  have p1 : Post P μ h w μ h { w with drawn := w.drawn + 1 } := Post.drawn s.hr _
  have hlen : ops.size = ri.its.length := by rw [rg.len, ← hall]; simp
  refine any_ok (nf := ri.nf) (base := h.next) (nt := nt) (ρ₀ := ρ) (dfs := a.defers) (μ₁ := μ) (h₁ := h) (w₁ := { w with drawn := w.drawn + 1 }) (c₀ := c₀) (cs₀ := cs₀) ok hcall rg tr hst rfl rfl hrd hall hnt rfl rfl
    (fun hdd μ' a' cs' w' hsz hdf hext hp htr hnf hcr => ?_) (fun k t ch hk hall' hdd μ' a' cs' w' ch' hsz hdf hext hp htr hnf hcr hch => ?_) ops.size _ 0 μ a cs _ ?_ ?_ ?_ (fun k y ch _ _ _ hi => ?_) ?_
  · rcases hcase with ⟨rfl, rfl, _, rfl⟩ | ⟨k, t, ch, hk, rfl, h1, _, _, _⟩
    · exact ⟨μ', (p.trans p1).trans hp, .normal, ⟨htr, hsz, by rw [hdf]; exact s.ds.mono hext, hcr, hp.rel, hnf⟩⟩
    · exfalso
      -- dead once, dead for good
      have late : ∀ n, k ≤ n → n ≤ ri.its.length → (st n).dead ≠ none := by
        intro n
        induction n with
        | zero => intro h1' _; have : k = 0 := by omega
                  subst this; rw [h1]; simp
        | succ n ih =>
          intro h1' h2'
          by_cases e : k = n + 1
          · subst e; rw [h1]; simp
          · have hne := ih (by omega) (by omega)
            have hx : ri.its[n]? = some (ri.its[n]'(by omega)) := List.getElem?_eq_getElem (by omega)
            have := tr.kept n _ hx hne
            rw [this]; exact hne
      exact late _ hk (Nat.le_refl _) hdd
  · rcases hcase with ⟨rfl, rfl, hzd, rfl⟩ | ⟨k2, t2, ch2, hk2, rfl, h1, h2, rfl, rfl⟩
    · exfalso
      have late : ∀ n, k ≤ n → n ≤ ri.its.length → (st n).dead ≠ none := by
        intro n
        induction n with
        | zero => intro h1' _; have : k = 0 := by omega
                  subst this; rw [hdd]; simp
        | succ n ih =>
          intro h1' h2'
          by_cases e : k = n + 1
          · subst e; rw [hdd]; simp
          · have hne := ih (by omega) (by omega)
            have hx : ri.its[n]? = some (ri.its[n]'(by omega)) := List.getElem?_eq_getElem (by omega)
            have := tr.kept n _ hx hne
            rw [this]; exact hne
      exact late _ hk (Nat.le_refl _) hzd
    · have hkk : k = k2 := by
        rcases Nat.lt_trichotomy k k2 with q | q | q
        · have := h2 k q; rw [this] at hdd; cases hdd
        · exact q
        · have := hall' k2 q; rw [this] at h1; cases h1
      subst hkk
      rw [hdd] at h1
      cases h1
      exact ⟨μ', (p.trans p1).trans hp, .panic hch, ⟨TR_del htr, hsz, by rw [hdf]; exact s.ds.mono hext, hcr, hp.rel, hnf⟩⟩
  · have hls : ∀ i, ¬ Ls (Array.replicate ops.size false) i := fun i hi => by
      unfold Ls at hi
      rw [Array.getElem?_replicate] at hi
      split at hi <;> cases hi
    have hG : ∀ p, ¬ InG ri.its.length st (Array.replicate ops.size false) 0 p := fun p hp => hls _ hp.2.1
    have hz := tr.zero
    refine ⟨by simp [hlen], fun i x _ hl => absurd hl (hls i), Nat.zero_le _, rfl, fun c x _ _ => ⟨fun hl => absurd hl (hls c), fun h => by omega⟩, fun t i _ hl => absurd hl (hls i),
      fun t u _ hu => s.tr t u hu, s.sz, rfl, .refl μ, ?_, fun p hp => absurd hp (hG p), fun p p' L L' hp => absurd hp (hG p), fun p L hp => absurd hp (hG p), ?_, ?_, ?_, .refl _ _, ?_, fun id hid => absurd rfl hid⟩
    · rw [hz]; exact ⟨p1.rel.dom, p1.rel.inj⟩
    · rw [hz]; exact fun id hid => s.nf id (by simp only at hid; omega)
    · rw [hz]; exact Nat.le_refl _
    · exact fun i x hx hf _ => s.nf _ (Nat.le_add_right _ _)
    · rintro B (hB | ⟨p, L, hp, _⟩)
      · rw [hz] at hB; exact .inl hB
      · exact absurd hp (hG p)
  · rw [tr.zero]; exact s.cr
  · rw [tr.zero]
  · unfold Ls at hi
    rw [Array.getElem?_replicate] at hi
    split at hi <;> cases hi
  · simp
end Go.AE

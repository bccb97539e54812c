/- The engine: an abstract machine that runs closed code of any program, and its proof: part 10 of 14. No condition. -/
import Derived.Test.YtjhnpcnamclfbaaGreatDoorE09
/-! The engine's machine is the machine: what a frame has to do. No condition. -/
namespace Go.Eng
open Go.RowKit

section
variable {E : Env} {B : Base} {b0 : Nat → Prop} {pd pd' : List (Nat × Blk)} {q : List (List (Nat × Blk))} {ρ ρ' : Rho} {σ : Nat → Value} {s s' : St} {w w' : World} {tm tm' : T AV} {nt : Nat} {cs0 : List Frame} {so : Option St}
  {todo todo' : List AItem} {inf : FrInf} {b : Frame} {a a' : Act} {is is' : List Item} {callers : List AFr} {cs : List Frame} {M : Machine} {m' : AM}

theorem FrR.at' (hf : FrR E pd so ρ σ ⟨tm, todo, inf⟩ (b.atR a is)) (hρ : Ext ρ ρ') (ha : a'.defers = a.defers) {so' : Option St} (tt : TT E pd' so' ρ' σ inf.nt tm' todo' is' a'.tmps) :
    FrR E pd' so' ρ' σ ⟨tm', todo', inf⟩ (b.atR a' is') := by
  have h := hf.ext hρ
  refine ⟨h.fn, h.kind, h.ro, ?_, h.mode, tt⟩
  show DfR ρ' σ inf.defers a'.defers
  rw [ha]; exact h.defers

/-- The frame goes on with something else to do. -/
theorem go1 (hf : FrR E pd so ρ σ ⟨tm, todo, inf⟩ (b.atR a is)) (hρ : Ext ρ ρ') (hs : Steps E.P M (lone (b.atR a' is') cs w')) (ha : a'.defers = a.defers) (hB : Kept b0 w w') (hi : IRs ρ' todo' is') (tr : TR ρ' σ tm' inf.nt a'.tmps)
    (hcs : CsR E ρ σ cs0 q callers cs) (hR : R ⟨b0, [] :: q⟩ ρ' σ s' w') : Goes E b0 ρ σ cs0 ⟨⟨tm', todo', inf⟩, callers, s'⟩ M w :=
  ⟨ρ', _, cs, w', [], q, hρ, hs, hB, hf.at' hρ ha (.plain rfl hi tr), hcs.ext hρ, hR⟩

theorem cReg_ok (ok : EnvS E σ) (mo : MemoOK E σ) (hv : Hold E.V b0 w) {ops : Array Oper} {l : List Oper} {ns : List Nat} {k : List AItem} {ks : List Item} (hf : FrR E pd so ρ σ ⟨tm, todo, inf⟩ (b.atR a is)) (hm : ns.map (ops[·]?) = l.map some) (hk : IRs ρ k ks) (tr : TR ρ σ tm inf.nt a.tmps)
    (hcs : CsR E ρ σ cs0 q callers cs) (h : R ⟨b0, [] :: q⟩ ρ σ s w) (hx : cReg E tm k inf callers s ops l = some m') : Goes E b0 ρ σ cs0 m' (lone (b.atR a (.inRegion ops ns :: ks)) cs w) w := by
  have H := regT_ok ok (b := b) (k := ks) (cs := cs) l ns a tm s ρ w hv hm tr h
  unfold cReg at hx
  split at hx
  · rename_i tm' s' hr
    rw [hr] at H
    cases hx
    obtain ⟨ρ', a', w', hρ, hs, hB, hR, tr', hd⟩ := H
    exact go1 hf hρ hs hd hB (hk.ext hρ) tr' hcs hR
  · rename_i it tm' s' r hr
    rw [hr] at H
    obtain ⟨o, rest, i, is', ρ', a', w', rfl, hρ, hs, hB, hR, tr', hd, ho, hm', hw, hop⟩ := H
    have hi : IRs ρ' (.reg ops (o :: rest) :: k) (.inRegion ops (i :: is') :: ks) := ⟨_, _, rfl, ⟨_, rfl, by simp [ho, hm']⟩, hk.ext hρ⟩
    exact Goes.head hρ hs hB (applyA_ok ok mo (hv.kept hB) ⟨hf.at' hρ hd (.plain rfl hi tr'), ho, hw, tm', inf.nt, tr', hop⟩ (hcs.ext hρ) hR hx)
  · cases hx

theorem cDReg_ok (ok : EnvS E σ) (mo : MemoOK E σ) (hv : Hold E.V b0 w) {ops : Array Oper} {pl : List PI} {ns : List Nat} {k : List AItem} {ks : List Item} (hf : FrR E pd' so ρ σ ⟨tm, todo, inf⟩ (b.atR a is)) (hk : IRs ρ k ks) (d : DTop E pd s ρ σ ops pl tm inf.nt ns a.tmps)
    (hcs : CsR E ρ σ cs0 q callers cs) (h : R ⟨b0, pd :: q⟩ ρ σ s w) (hx : cDReg E tm k inf callers s ops pl = some m') : Goes E b0 ρ σ cs0 m' (lone (b.atR a (.inRegion ops ns :: ks)) cs w) w := by
  obtain ⟨own, all, pn, X, tmM, rfl, D⟩ := d
  have H := dregT_ok ok (b := b) (k := ks) (cs := cs) pn own pl ns a tm s ρ w X tmM hv D h
  unfold cDReg at hx
  split at hx
  · rename_i tm' s' hr
    rw [hr] at H
    cases hx
    obtain ⟨ρ', a', w', hρ, hs, hB, hR, tr', hd⟩ := H
    exact go1 hf hρ hs hd hB (hk.ext hρ) tr' hcs hR
  · rename_i it tm' s' r hr
    rw [hr] at H
    obtain ⟨o, rest, i, sch', ρ', a', w', tmM', pd1, rfl, hρ, hs, hB, hR, dw, tr', hd, ho, hw, hop⟩ := H
    exact Goes.head hρ hs hB (applyA_ok ok mo (hv.kept hB) ⟨hf.at' hρ hd (.wait rfl (hk.ext hρ) dw), ho, hw, tmM', inf.nt, tr', hop⟩ (hcs.ext hρ) hR hx)
  · cases hx

theorem range_get (ops : Array Oper) : (List.range ops.size).map (ops[·]?) = ops.toList.map some := by
  apply List.ext_getElem
  · simp
  · intro i h1 h2
    simp at h1 h2 ⊢

/-- A frame is left. -/
theorem leave_code (hb : FrR E pd (some s) ρ σ ⟨tm, todo, inf⟩ (b.atR a is)) (hn : noD todo = true) (hcs : CsR E ρ σ cs0 q callers cs) (h : R ⟨b0, pd :: q⟩ ρ σ s w) {jump : Option Code} (hx : leaveA ⟨tm, todo, inf⟩ callers s jump = some m')
    (hst : stepG E.P true { frame := b.atR a is, callers := cs, status := .running, dying := none } w =
      match b.roundOf with
      | none => if jump matches none | some .ret then .go { frame := { b.atR a is with mode := .returning }, callers := cs, status := .running, dying := none } w else .ended (.stuck "exit, goto: no such block or label" ((b.atR a is).pos E.P)) w
      | some l => let (r, es) := (Instr.endRound l jump).runT E.P w #[]
        GStep.after (seen E.P (b.atR a is).fn es) <| match r with
        | .ok v w => doReturn E.P true (b.atR a is) cs none v w
        | .halt _ w => .ended (.stuck "range over a function: no such loop" ((b.atR a is).pos E.P)) w) :
    Goes E b0 ρ σ cs0 m' (lone (b.atR a is) cs w) w := by
  refine leaveA_ok hb hn hcs h hx ⟨fun hr hj => ?_, fun l v w1 hr he fr' cs' hd => ?_⟩
  · refine step_lone_go ?_
    rw [hst, hr]
    rcases hj with rfl | rfl <;> rfl
  · refine step_lone_go ?_
    rw [hst, hr]
    simp [Sem.runT_eq, he, GStep.bare_after, hd]

theorem stepE_endRange {P : Program} {l : Nat} {jump : Option Code} {k : List Item} (h : (Instr.endLoop l).run P w = .ok jump w') :
    step P (lone (b.atR a (.endRangeFunc l :: k)) cs w) = .next (lone (b.atR a ((jump.map Item.code).toList ++ k)) cs w') :=
  step_lone_go (by simp [stepG, stepG.exec, Frame.atR, Sem.runT_eq, h, GStep.bare_after])

theorem stepE_rangeFunc {P : Program} {g : Operand} {ps : Array Tmp} {assign body : Code} {l : Nat} {mark : List Deferred} {w1 w2 w3 : World} {d : Deferred} {f : FuncId} {args : Array Value} {k : List Item}
    (he : (Instr.enterLoop b.fn a.tmps ps assign body b.roundOf).run P w = .ok (l, mark) w1)
    (hres : (resolve a.eval { callee := .value g, args := #[.const (.func (.yield l) #[] #[])], argTypes := #[] } 0).run P w1 = .ok d w2) (hinv : (invoke d.target d.args).run P w2 = .ok (.enter f args) w3) :
    step P (lone (b.atR a (.code (.rangeFunc g ps assign body) :: k)) cs w) =
      .next (lone (Frame.enter P f args .normal) (b.atR { a with defers := mark ++ a.defers } (.inRangeFunc l :: k) :: cs) w3) :=
  step_lone_go (by
    have hev := Frame.eval_atR b { a with defers := mark ++ a.defers } (.inRangeFunc l :: k)
    simp only [Frame.atR] at hev
    have hres' : Sem.run P (resolve ({ tmps := a.tmps, defers := mark ++ a.defers } : Act).eval { callee := .value g, args := #[.const (.func (.yield l) #[] #[])], argTypes := #[] } 0) w1 = .ok d w2 := hres
    simp [stepG, stepG.exec, Frame.atR, Sem.runT_eq, he, GStep.bare_after, stepG.apply, hev, Sem.run_bind, hres', hinv, Result.andThen])

/-- A loop's record is laid, and, where there is none around it, the block for its rounds' deferred calls. -/
theorem enterLoop_ok {P : Program} (h : R B ρ σ s w) {ro : Option Nat} {rb : Option Nat} (hro : RoR ρ ro rb) {defers ds : List ADef} {dfs : List Deferred} (hd : DfR ρ σ defers dfs) {df : Nat} {s1 s2 : St} (hx : rfDefers s ro defers = some (df, s1, ds))
    {fn : FuncId} {tmps : Array Value} {ps : Array Tmp} {as bd : Code} (tr : TR ρ σ tm nt tmps) {l : Nat} (hn : s1.new (.loop .ready none fn tm nt ps.toList as bd df) = some (l, s2)) :
    ∃ ρ' L mark w', Ext ρ ρ' ∧ (Instr.enterLoop fn tmps ps as bd rb).run P w = .ok (L.blk, mark) w' ∧ Kept B.b w w' ∧ R B ρ' σ s2 w' ∧ ρ' l = some L ∧ DfR ρ' σ ds (mark ++ dfs) := by
  unfold rfDefers at hx
  cases ro with
  | some l0 =>
    simp only at hx
    split at hx
    case h_2 => cases hx
    rename_i st0 pe0 fn0 tm0 nt0 ps0 as0 bd0 df0 hl
    cases hx
    obtain ⟨L0, hL0, rfl⟩ := hro
    obtain ⟨ob, hob, z, lp, rfl, e1, e2, e3, e4, e5, e6, e7, D, hD, e8⟩ := h.here hl hL0
    have hg : (Instr.getLoop L0.blk).run P w = .ok lp w := by simp [Instr.getLoop, run_getObj, hob]
    have k := New.alloc w (.loop { state := .ready, pending := none, fn, tmps, params := ps, assign := as, body := bd, defers := lp.defers })
    obtain ⟨ρ', hρ, hR, hl'⟩ := h.new (e := 0) hn k ⟨rfl, _, rfl, rfl, rfl, rfl, tr, rfl, rfl, rfl, D, hD, e8⟩
    refine ⟨ρ', _, [], _, hρ, ?_, k.below h.size, hR, hl', hd.ext hρ⟩
    simp [Instr.enterLoop, hg]
  | none =>
    simp only at hx
    split at hx
    case h_2 => cases hx
    rename_i r s1' hr
    cases hx
    cases hro
    have k1 := New.alloc w (.deferred (some []))
    obtain ⟨ρ1, hρ1, hR1, hr1⟩ := h.new (e := 0) hr k1 ⟨rfl, rfl⟩
    have k2 := New.alloc (w.alloc (.deferred (some []))) (.loop { state := .ready, pending := none, fn, tmps, params := ps, assign := as, body := bd, defers := w.heap.size })
    obtain ⟨ρ2, hρ2, hR2, hl2⟩ := hR1.new (e := 0) hn k2 ⟨rfl, _, rfl, rfl, rfl, rfl, tr.ext hρ1, rfl, rfl, rfl, _, hr1, rfl⟩
    refine ⟨ρ2, _, [{ target := .collected w.heap.size, args := #[] }], _, hρ1.trans hρ2, ?_, (k1.below h.size).trans (k2.below hR1.size), hR2, hl2, ⟨_, _, hρ2 _ _ hr1, rfl, hd.ext (hρ1.trans hρ2)⟩⟩
    simp [Instr.enterLoop]

theorem cRangeFunc_ok (ok : EnvOK E) {g : Operand} {ps : Array Tmp} {as bd : Code} {k : List AItem} {ks : List Item} (hf : FrR E pd so ρ σ ⟨tm, todo, inf⟩ (b.atR a is)) (hk : IRs ρ k ks) (tr : TR ρ σ tm inf.nt a.tmps)
    (hcs : CsR E ρ σ cs0 q callers cs) (h : R ⟨b0, [] :: q⟩ ρ σ s w) (hx : cRangeFunc E tm k inf callers s g ps as bd = some m') : Goes E b0 ρ σ cs0 m' (lone (b.atR a (.code (.rangeFunc g ps as bd) :: ks)) cs w) w := by
  unfold cRangeFunc at hx
  split at hx
  case h_2 => cases hx
  rename_i f first cap hg
  obtain ⟨fn, nt, defers, md, kd, ro⟩ := inf
  simp only at hx
  split at hx
  · cases hx
  rename_i df s1 ds hdf
  split at hx
  · cases hx
  rename_i l s2 hnew
  split at hx
  case h_2 => cases hx
  rename_i f' args s3 hcall
  split at hx
  case h_2 => cases hx
  rename_i fr' hent
  cases hx
  obtain ⟨ρ1, L, mark, w1, hρ1, he, hB1, hR1, hl, hds⟩ := enterLoop_ok (P := E.P) h hf.ro hf.defers hdf (fn := b.fn) (tmps := a.tmps) tr (by rw [show b.fn = fn from hf.fn]; exact hnew)
  obtain ⟨va, vc, hv, h1, h2⟩ := Act.evOK h tr g _ hg
  have hres : (resolve a.eval { callee := .value g, args := #[.const (.func (.yield L.blk) #[] #[])], argTypes := #[] } 0).run E.P w1 = .ok { target := .fn (.func f) vc, args := va ++ #[.func (.yield L.blk) #[] #[]] } w1 := by
    simp [resolve, hv, Deferred.ofValue]
    rfl
  have hargs : VRs ρ1 σ ((first ++ [.yield l]) ++ cap) ((va ++ #[Value.func (.yield L.blk) #[] #[]]) ++ vc).toList := by
    have hy : VRs ρ1 σ [.yield l] [Value.func (.yield L.blk) #[] #[]] := ⟨_, _, rfl, ⟨L, hl, rfl⟩, rfl⟩
    simp only [Array.toList_append]
    exact ((VRs.ext hρ1 _ _ h1).append hy).append (VRs.ext hρ1 _ _ h2)
  have hr := callA_ok ok hR1 hargs hcall
  cases hrun : (callFunc f ((va ++ #[Value.func (.yield L.blk) #[] #[]]) ++ vc)).run E.P w1 with
  | halt e w' =>
    rw [hrun] at hr
    cases e <;> first | exact hr.elim | (obtain ⟨_, _, e, _⟩ := hr; cases e)
  | ok nx w' =>
    rw [hrun] at hr
    obtain ⟨hB, ρ', hρ, hR, va', rfl, hva⟩ := hr
    have hen := enterA_ok ok hva hent s3
    have hinv : (invoke (.fn (.func f) vc) (va ++ #[Value.func (.yield L.blk) #[] #[]])).run E.P w1 = .ok (.enter f' va') w' := hrun
    refine ⟨ρ', _, _ :: cs, w', [], [] :: q, hρ1.trans hρ, .one (stepE_rangeFunc he hres hinv), hB1.trans hB, hen, ⟨_, _, [], q, rfl, rfl, ?_, hcs.ext (hρ1.trans hρ)⟩, hR.rebase rfl (by simp)⟩
    have hff := hf.ext (hρ1.trans hρ)
    exact ⟨hff.fn, hff.kind, hff.ro, hds.ext hρ, hff.mode, .plain rfl ⟨_, _, rfl, ⟨L, hρ _ _ hl, rfl⟩, hk.ext (hρ1.trans hρ)⟩ (tr.ext (hρ1.trans hρ))⟩

theorem cCode_ok (ok : EnvS E σ) (mo : MemoOK E σ) (hv : Hold E.V b0 w) {c : Code} {k : List AItem} {ks : List Item} (hf : FrR E [] (some s) ρ σ ⟨tm, .code c :: k, inf⟩ (b.atR a (.code c :: ks))) (hk : IRs ρ k ks) (tr : TR ρ σ tm inf.nt a.tmps)
    (hcs : CsR E ρ σ cs0 q callers cs) (h : R ⟨b0, [] :: q⟩ ρ σ s w) (hx : cCodeT c E tm k inf callers s = some m') : Goes E b0 ρ σ cs0 m' (lone (b.atR a (.code c :: ks)) cs w) w := by
  cases c with
  | skip => cases hx; exact go1 hf (Ext.refl _) (.one stepR_skip) rfl (Kept.refl _ _) hk tr hcs h
  | region id ops draw =>
    cases draw with
    | false => exact Goes.head (Ext.refl _) (.one stepR_region) (Kept.refl _ _) (cReg_ok ok mo hv hf (range_get ops) hk tr hcs h hx)
    | true =>
      have hs := stepR_region_draw (P := E.P) (b := b) (a := a) (k := ks) (cs := cs) (w := w) (ops := ops) (id := id)
      rw [ok.ok.mixed] at hs
      refine Goes.head (Ext.refl _) (.one hs) ((Same.drew w).below b0) ?_
      replace hx : cDraw E tm k inf callers s ops = some m' := hx
      unfold cDraw at hx
      split at hx
      case h_2 => cases hx
      rename_i pl hpl
      obtain ⟨all, pn, D⟩ := dplan_start (E := E) (s := s) hpl tr (w.tape w.drawn (.order b.fn id))
      exact cDReg_ok ok mo (hv.kept ((Same.drew w).below b0)) hf hk (pd := []) ⟨[], all, pn, 0, tm, rfl, D⟩ hcs (h.same (Same.drew w)) hx
  | seq x y => cases hx; exact go1 hf (Ext.refl _) (.one stepR_seq) rfl (Kept.refl _ _) ⟨_, _, rfl, rfl, _, _, rfl, rfl, hk⟩ tr hcs h
  | cond c x y =>
    replace hx : cCond tm k inf callers s c x y = some m' := hx
    unfold cCond at hx
    split at hx
    case h_2 => cases hx
    rename_i v hv
    cases hx
    have he : a.eval c = .bool v := Act.evOK h tr c _ hv
    refine go1 hf (Ext.refl _) (.one (stepR_cond he)) rfl (Kept.refl _ _) ⟨_, _, rfl, ?_, hk⟩ tr hcs h
    cases v <;> rfl
  | block id c => cases hx; exact go1 hf (Ext.refl _) (.one stepR_block) rfl (Kept.refl _ _) ⟨_, _, rfl, rfl, _, _, rfl, rfl, hk⟩ tr hcs h
  | loop c => cases hx; exact go1 hf (Ext.refl _) (.one stepR_loop) rfl (Kept.refl _ _) ⟨_, _, rfl, rfl, _, _, rfl, rfl, hk⟩ tr hcs h
  | rangeFunc g ps as bd => exact cRangeFunc_ok ok.ok hf hk tr hcs h hx
  | exit id =>
    replace hx : cExit tm k inf callers s id = some m' := hx
    unfold cExit at hx
    obtain ⟨h1, h2⟩ := exitA_ok (id := id) hk
    split at hx
    · rename_i k' hk'
      cases hx
      obtain ⟨is', e, hi⟩ := h1 k' hk'
      exact go1 hf (Ext.refl _) (.one (stepR_exit e)) rfl (Kept.refl _ _) hi tr hcs h
    · rename_i hk'
      refine leave_code hf rfl hcs h hx ?_
      simp only [stepG, stepG.exec, Frame.atR, h2 hk', Option.elim]
      rfl
  | goto l => cases hx
  | label l => cases hx; exact go1 hf (Ext.refl _) (.one stepR_label) rfl (Kept.refl _ _) hk tr hcs h
  | scope c => cases hx
  | ret => exact leave_code (jump := some .ret) hf rfl hcs h hx rfl
  | refuse y => cases hx
end
end Go.Eng

/-! The engine's machine is the machine: a step, a run, a call. No condition. -/
namespace Go.Eng
open Go.RowKit

section
variable {E : Env} {b0 : Nat → Prop} {pd pd' : List (Nat × Blk)} {q : List (List (Nat × Blk))} {ρ ρ' : Rho} {σ : Nat → Value} {s s' : St} {w w' : World} {tm tm' : T AV} {nt : Nat} {cs0 : List Frame} {so : Option St}
  {todo todo' : List AItem} {inf : FrInf} {b : Frame} {a a' : Act} {is is' : List Item} {callers : List AFr} {cs : List Frame} {M : Machine} {m' : AM}

theorem cEndRange_ok {l : Nat} {L : Loc} {k : List AItem} {ks : List Item} (hf : FrR E pd so ρ σ ⟨tm, todo, inf⟩ (b.atR a is)) (hL : ρ l = some L) (hk : IRs ρ k ks) (tr : TR ρ σ tm inf.nt a.tmps)
    (hcs : CsR E ρ σ cs0 q callers cs) (h : R ⟨b0, [] :: q⟩ ρ σ s w) (hx : cEndRange tm k inf callers s l = some m') : Goes E b0 ρ σ cs0 m' (lone (b.atR a (.endRangeFunc L.blk :: ks)) cs w) w := by
  unfold cEndRange at hx
  split at hx
  case h_2 => cases hx
  rename_i st pe fn tmps nt ps as bd df hl
  obtain ⟨lp, hlp, e1, e2, _⟩ := loop_at h hL hl
  subst e2
  have hst : st ≠ .busy := by rintro rfl; cases hx
  have hx' : some (⟨⟨tm, match lp.pending with | some c => .code c :: k | none => k, inf⟩, callers, s.put l (.loop .exhausted lp.pending fn tmps nt ps as bd df)⟩ : AM) = some m' := by
    rw [← hx]; cases st <;> first | rfl | exact absurd rfl hst
  cases hx'
  obtain ⟨hB, hR⟩ := loop_set h hL hl hlp (st' := .exhausted) (pe' := lp.pending)
  have hg : (Instr.getLoop L.blk).run E.P w = .ok lp w := by simp [Instr.getLoop, run_getObj, hlp]
  have hend : (Instr.endLoop L.blk).run E.P w = .ok lp.pending { w with heap := w.heap.setIfInBounds L.blk (.loop { lp with state := .exhausted, pending := lp.pending }) } := by
    unfold Instr.endLoop
    have hb : (lp.state == LoopState.busy) = false := by rw [e1]; cases st <;> first | rfl | exact absurd rfl hst
    simp only [Sem.run_bind, hg, Result.andThen_ok, hb]
    simp [setObj, Sem.run, hlp]
  refine go1 hf (Ext.refl _) (.one (stepE_endRange hend)) rfl hB ?_ tr hcs hR
  cases lp.pending with
  | none => exact hk
  | some c => exact ⟨_, _, rfl, rfl, hk⟩

theorem cBegin_ok {k : List AItem} {ks : List Item} (hf : FrR E pd so ρ σ ⟨tm, todo, inf⟩ (b.atR a is)) (hk : IRs ρ k ks) (tr : TR ρ σ tm inf.nt a.tmps)
    (hcs : CsR E ρ σ cs0 q callers cs) (h : R ⟨b0, [] :: q⟩ ρ σ s w) (hx : cBegin tm k inf callers s = some m') : Goes E b0 ρ σ cs0 m' (lone (b.atR a (.beginRound :: ks)) cs w) w := by
  obtain ⟨fn, nt, ds, md, kd, ro⟩ := inf
  unfold cBegin at hx
  split at hx
  case h_2 => cases hx
  rename_i l hro
  split at hx
  case h_2 => cases hx
  rename_i pe lfn tmps nt' ps as bd df hl
  cases hx
  have hro' : ro = some l := hro
  subst hro'
  obtain ⟨L, hL, hbr⟩ := hf.ro
  obtain ⟨lp, hlp, e1, e2, _⟩ := loop_at h hL hl
  subst e2
  obtain ⟨hB, hR⟩ := loop_set h hL hl hlp (st' := .busy) (pe' := lp.pending)
  have hg : (Instr.getLoop L.blk).run E.P w = .ok lp w := by simp [Instr.getLoop, run_getObj, hlp]
  have hbeg : (Instr.beginRound L.blk).run E.P w = .ok () { w with heap := w.heap.setIfInBounds L.blk (.loop { lp with state := .busy, pending := lp.pending }) } := by
    unfold Instr.beginRound
    simp [hg, e1, setObj, Sem.run, hlp]
  exact go1 hf (Ext.refl _) (.one (stepR_beginRound hbr hbeg)) rfl hB hk tr hcs hR

theorem runA_ok (ok : EnvS E σ) (mo : MemoOK E σ) (hv : Hold E.V b0 w) (hf : FrR E pd (some s) ρ σ ⟨tm, todo, inf⟩ (b.atR a is)) (hcs : CsR E ρ σ cs0 q callers cs) (h : R ⟨b0, pd :: q⟩ ρ σ s w) (hx : runA E tm todo inf callers s = some m') :
    Goes E b0 ρ σ cs0 m' (lone (b.atR a is) cs w) w := by
  cases todo with
  | nil =>
    obtain ⟨hi, _⟩ := hf.tt.noD rfl
    cases hi
    exact leave_code (jump := none) hf rfl hcs h hx rfl
  | cons it k =>
    have htt : TT E pd (some s) ρ σ inf.nt tm (it :: k) is a.tmps := hf.tt
    cases htt with
    | plain hp hi tr =>
      subst hp
      obtain ⟨i, r, rfl, hi, hk⟩ := hi
      cases it with
      | code c => cases hi; exact cCode_ok ok mo hv hf hk tr hcs h hx
      | inBlock id => cases hi; cases hx; exact go1 hf (Ext.refl _) (.one stepR_inBlock) rfl (Kept.refl _ _) hk tr hcs h
      | inLoop c => cases hi; cases hx; exact go1 hf (Ext.refl _) (.one stepR_inLoop) rfl (Kept.refl _ _) ⟨_, _, rfl, rfl, _, _, rfl, rfl, hk⟩ tr hcs h
      | reg ops l => obtain ⟨ns, rfl, hm⟩ := hi; exact cReg_ok ok mo hv hf hm hk tr hcs h hx
      | dreg ops l => exact hi.elim
      | inRangeFunc l => cases hx
      | endRangeFunc l => obtain ⟨L, hL, rfl⟩ := hi; exact cEndRange_ok hf hL hk tr hcs h hx
      | beginRound => cases hi; exact cBegin_ok hf hk tr hcs h hx
    | top hs hk d => cases hs; exact cDReg_ok ok mo hv hf hk d hcs h hx
    | wait hs _ _ => cases hs

theorem astep_ok (ok : EnvS E σ) (mo : MemoOK E σ) (hv : Hold E.V b0 w) {m : AM} {f : Frame} (hm : MR1 E b0 pd q ρ σ cs0 m f cs w) (hx : astep E m = some m') : Goes E b0 ρ σ cs0 m' (lone f cs w) w := by
  obtain ⟨⟨tm, todo, ⟨fn, nt, defers, mode, kd, ro⟩⟩, callers, s⟩ := m
  obtain ⟨hf, hcs, h⟩ := hm
  cases mode with
  | run =>
    have hmd : f.mode = .run := hf.mode
    have e := Frame.as_atR hmd
    rw [e] at hf ⊢
    exact runA_ok ok mo hv hf hcs h hx
  | returning => exact unwindA_ok ok.ok hf (by rw [show f.mode = .returning from hf.mode]; exact fun e => by cases e) hcs h hx
  | panicking c => exact unwindA_ok ok.ok hf (by obtain ⟨ps, e, _⟩ := hf.mode; rw [e]; exact fun e => by cases e) hcs h hx

theorem run_ok (ok : EnvS E σ) (mo : MemoOK E σ) : ∀ (n : Nat) (m m' : AM) (pd : List (Nat × Blk)) (q : List (List (Nat × Blk))) (ρ : Rho) (f : Frame) (cs : List Frame) (w : World), Hold E.V b0 w → MR1 E b0 pd q ρ σ cs0 m f cs w → run E n m = some m' → Goes E b0 ρ σ cs0 m' (lone f cs w) w ∧ doneA m' = true
  | 0, _, _, _, _, _, _, _, _, _, _, hx => by cases hx
  | n + 1, m, m', pd, q, ρ, f, cs, w, hv, hm, hx => by
    unfold run at hx
    split at hx
    · rename_i hd
      cases hx
      exact ⟨⟨ρ, f, cs, w, pd, q, Ext.refl _, .refl _ _, Kept.refl _ _, hm⟩, hd⟩
    · split at hx
      · rename_i m1 h1
        obtain ⟨ρ1, f1, cs1, w1, pd1, q1, hρ, hs, hB, hm1⟩ := astep_ok ok mo hv hm h1
        obtain ⟨h2, h3⟩ := run_ok ok mo n m1 m' pd1 q1 ρ1 f1 cs1 w1 (hv.kept hB) hm1 hx
        exact ⟨Goes.head hρ hs hB h2, h3⟩
      · cases hx
end

/-- May the lowest frame return, and is it this function's? -/
def endA (f : FuncId) (fr : AFr) : Bool := Nat.beq fr.inf.fn f && (match fr.inf.kind with | .normal => true | _ => false) && noD fr.todo

/-- The same run, quicker: a frame's parts are handed on as they are. -/
noncomputable def runK (E : Env) (n : Nat) : T AV → List AItem → FrInf → List AFr → St → Option AM :=
  Nat.rec (motive := fun _ => T AV → List AItem → FrInf → List AFr → St → Option AM) (fun _ _ _ _ _ => none)
    (fun _ ih tm todo inf callers s =>
      AMode.casesOn (motive := fun _ => Option AM) inf.mode
        (List.casesOn (motive := fun _ => Option AM) todo
          (Option.rec (motive := fun _ => Option AM) none (fun m => AM.rec (motive := fun _ => Option AM) (fun fr cs st => AFr.rec (motive := fun _ => Option AM) (fun tm td inf => ih tm td inf cs st) fr) m) (runA E tm todo inf callers s))
          (fun it k => AItem.casesOn (motive := fun _ => Option AM) it
            (fun c => Code.casesOn (motive := fun _ => Option AM) c
              (ih tm k inf callers s)
              (fun _ ops draw => Bool.rec (motive := fun _ => Option AM)
                (RR.rec (motive := fun _ => Option AM) (fun tm' s' => ih tm' k inf callers s')
                  (fun it tm' s' r => Option.rec (motive := fun _ => Option AM) none (fun m => AM.rec (motive := fun _ => Option AM) (fun fr cs st => AFr.rec (motive := fun _ => Option AM) (fun tm td inf => ih tm td inf cs st) fr) m) (applyA E ⟨tm', it :: k, inf⟩ callers r s'))
                  (fun _ => none) (regT ops.toList E ops inf.nt tm s))
                (Option.rec (motive := fun _ => Option AM) none (fun m => AM.rec (motive := fun _ => Option AM) (fun fr cs st => AFr.rec (motive := fun _ => Option AM) (fun tm td inf => ih tm td inf cs st) fr) m) (cDraw E tm k inf callers s ops)) draw)
              (fun a b => ih tm (.code a :: .code b :: k) inf callers s)
              (fun c t e => Option.rec (motive := fun _ => Option AM) none (fun m => AM.rec (motive := fun _ => Option AM) (fun fr cs st => AFr.rec (motive := fun _ => Option AM) (fun tm td inf => ih tm td inf cs st) fr) m) (cCond tm k inf callers s c t e))
              (fun id b => ih tm (.code b :: .inBlock id :: k) inf callers s)
              (fun b => ih tm (.code b :: .inLoop b :: k) inf callers s)
              (fun _ _ _ _ => Option.rec (motive := fun _ => Option AM) none (fun m => AM.rec (motive := fun _ => Option AM) (fun fr cs st => AFr.rec (motive := fun _ => Option AM) (fun tm td inf => ih tm td inf cs st) fr) m) (cCodeT c E tm k inf callers s))
              (fun _ => Option.rec (motive := fun _ => Option AM) none (fun m => AM.rec (motive := fun _ => Option AM) (fun fr cs st => AFr.rec (motive := fun _ => Option AM) (fun tm td inf => ih tm td inf cs st) fr) m) (cCodeT c E tm k inf callers s))
              (fun _ => Option.rec (motive := fun _ => Option AM) none (fun m => AM.rec (motive := fun _ => Option AM) (fun fr cs st => AFr.rec (motive := fun _ => Option AM) (fun tm td inf => ih tm td inf cs st) fr) m) (cCodeT c E tm k inf callers s))
              (fun _ => Option.rec (motive := fun _ => Option AM) none (fun m => AM.rec (motive := fun _ => Option AM) (fun fr cs st => AFr.rec (motive := fun _ => Option AM) (fun tm td inf => ih tm td inf cs st) fr) m) (cCodeT c E tm k inf callers s))
              (fun _ => Option.rec (motive := fun _ => Option AM) none (fun m => AM.rec (motive := fun _ => Option AM) (fun fr cs st => AFr.rec (motive := fun _ => Option AM) (fun tm td inf => ih tm td inf cs st) fr) m) (cCodeT c E tm k inf callers s))
              (Option.rec (motive := fun _ => Option AM) none (fun m => AM.rec (motive := fun _ => Option AM) (fun fr cs st => AFr.rec (motive := fun _ => Option AM) (fun tm td inf => ih tm td inf cs st) fr) m) (cCodeT c E tm k inf callers s))
              (fun _ => Option.rec (motive := fun _ => Option AM) none (fun m => AM.rec (motive := fun _ => Option AM) (fun fr cs st => AFr.rec (motive := fun _ => Option AM) (fun tm td inf => ih tm td inf cs st) fr) m) (cCodeT c E tm k inf callers s)))
            (fun _ => ih tm k inf callers s)
            (fun b => ih tm (.code b :: .inLoop b :: k) inf callers s)
            (fun _ _ => Option.rec (motive := fun _ => Option AM) none (fun m => AM.rec (motive := fun _ => Option AM) (fun fr cs st => AFr.rec (motive := fun _ => Option AM) (fun tm td inf => ih tm td inf cs st) fr) m) (runT it E tm k inf callers s))
            (fun _ _ => Option.rec (motive := fun _ => Option AM) none (fun m => AM.rec (motive := fun _ => Option AM) (fun fr cs st => AFr.rec (motive := fun _ => Option AM) (fun tm td inf => ih tm td inf cs st) fr) m) (runT it E tm k inf callers s))
            (fun _ => Option.rec (motive := fun _ => Option AM) none (fun m => AM.rec (motive := fun _ => Option AM) (fun fr cs st => AFr.rec (motive := fun _ => Option AM) (fun tm td inf => ih tm td inf cs st) fr) m) (runT it E tm k inf callers s))
            (fun _ => Option.rec (motive := fun _ => Option AM) none (fun m => AM.rec (motive := fun _ => Option AM) (fun fr cs st => AFr.rec (motive := fun _ => Option AM) (fun tm td inf => ih tm td inf cs st) fr) m) (runT it E tm k inf callers s))
            (Option.rec (motive := fun _ => Option AM) none (fun m => AM.rec (motive := fun _ => Option AM) (fun fr cs st => AFr.rec (motive := fun _ => Option AM) (fun tm td inf => ih tm td inf cs st) fr) m) (runT it E tm k inf callers s))))
        (Bool.rec (motive := fun _ => Option AM) (Option.rec (motive := fun _ => Option AM) none (fun m => AM.rec (motive := fun _ => Option AM) (fun fr cs st => AFr.rec (motive := fun _ => Option AM) (fun tm td inf => ih tm td inf cs st) fr) m) (astep E ⟨⟨tm, todo, inf⟩, callers, s⟩)) (some ⟨⟨tm, todo, inf⟩, callers, s⟩) (doneA ⟨⟨tm, todo, inf⟩, callers, s⟩))
        (fun _ => Bool.rec (motive := fun _ => Option AM) (Option.rec (motive := fun _ => Option AM) none (fun m => AM.rec (motive := fun _ => Option AM) (fun fr cs st => AFr.rec (motive := fun _ => Option AM) (fun tm td inf => ih tm td inf cs st) fr) m) (astep E ⟨⟨tm, todo, inf⟩, callers, s⟩)) (some ⟨⟨tm, todo, inf⟩, callers, s⟩) (doneA ⟨⟨tm, todo, inf⟩, callers, s⟩))) n

theorem run_succ (E : Env) (n : Nat) (m : AM) : run E (n + 1) m = Bool.rec (motive := fun _ => Option AM) (Option.rec (motive := fun _ => Option AM) none (fun m' => run E n m') (astep E m)) (some m) (doneA m) := by
  show (match doneA m with | true => some m | false => match astep E m with | some m' => run E n m' | none => none) = _
  cases doneA m with
  | true => rfl
  | false => cases astep E m <;> rfl
theorem runK_eq (E : Env) : ∀ (n : Nat) (tm : T AV) (todo : List AItem) (inf : FrInf) (callers : List AFr) (s : St), runK E n tm todo inf callers s = run E n ⟨⟨tm, todo, inf⟩, callers, s⟩
  | 0, _, _, _, _, _ => rfl
  | n + 1, tm, todo, ⟨fn, nt, ds, md, kd, ro⟩, callers, s => by
    have ih := runK_eq E n
    have hk : ∀ o : Option AM, Option.rec (motive := fun _ => Option AM) none (fun m => AM.rec (motive := fun _ => Option AM) (fun fr cs st => AFr.rec (motive := fun _ => Option AM) (fun tm td inf => runK E n tm td inf cs st) fr) m) o = Option.rec (motive := fun _ => Option AM) none (fun m' => run E n m') o := by
      intro o
      cases o with
      | none => rfl
      | some m => obtain ⟨⟨tm, td, inf⟩, cs, st⟩ := m; exact ih tm td inf cs st
    rw [run_succ]
    cases md with
    | returning =>
      exact congrArg (fun o => Bool.rec (motive := fun _ => Option AM) o (some ⟨⟨tm, todo, ⟨fn, nt, ds, .returning, kd, ro⟩⟩, callers, s⟩) (doneA ⟨⟨tm, todo, ⟨fn, nt, ds, .returning, kd, ro⟩⟩, callers, s⟩)) (hk (astep E ⟨⟨tm, todo, ⟨fn, nt, ds, .returning, kd, ro⟩⟩, callers, s⟩))
    | panicking c =>
      exact congrArg (fun o => Bool.rec (motive := fun _ => Option AM) o (some ⟨⟨tm, todo, ⟨fn, nt, ds, .panicking c, kd, ro⟩⟩, callers, s⟩) (doneA ⟨⟨tm, todo, ⟨fn, nt, ds, .panicking c, kd, ro⟩⟩, callers, s⟩)) (hk (astep E ⟨⟨tm, todo, ⟨fn, nt, ds, .panicking c, kd, ro⟩⟩, callers, s⟩))
    | run =>
      have hd : doneA ⟨⟨tm, todo, ⟨fn, nt, ds, .run, kd, ro⟩⟩, callers, s⟩ = false := by unfold doneA; cases callers <;> rfl
      rw [hd]
      show _ = Option.rec (motive := fun _ => Option AM) none (fun m' => run E n m') (runA E tm todo ⟨fn, nt, ds, .run, kd, ro⟩ callers s)
      cases todo with
      | nil => exact hk _
      | cons it k =>
        cases it with
        | code c =>
          cases c with
          | skip => exact ih _ _ _ _ _
          | region id ops draw =>
            cases draw with
            | true => exact hk _
            | false =>
              show RR.rec (motive := fun _ => Option AM) _ _ _ (regT ops.toList E ops nt tm s) = Option.rec (motive := fun _ => Option AM) none (fun m' => run E n m') (cReg E tm k ⟨fn, nt, ds, .run, kd, ro⟩ callers s ops ops.toList)
              unfold cReg
              show RR.rec (motive := fun _ => Option AM) _ _ _ (regT ops.toList E ops nt tm s) = Option.rec (motive := fun _ => Option AM) none (fun m' => run E n m') (match regT ops.toList E ops nt tm s with | .done tm' s' => _ | .stop it tm' s' r => _ | .stuck _ => _)
              cases regT ops.toList E ops nt tm s with
              | done tm' s' => exact ih _ _ _ _ _
              | stop it tm' s' r => exact hk _
              | stuck o => rfl
          | seq a b => exact ih _ _ _ _ _
          | block id b => exact ih _ _ _ _ _
          | loop b => exact ih _ _ _ _ _
          | _ => first | exact hk _ | rfl | exact ih _ _ _ _ _
        | inBlock id => exact ih _ _ _ _ _
        | inLoop b => exact ih _ _ _ _ _
        | _ => first | exact hk _ | rfl

noncomputable def callN (E : Env) (s : St) (f : FuncId) (args : List AV) (n : Nat) : Option (AV × St) :=
  match enterA E f args .normal with
  | some fr => match runK E n fr.tmps fr.todo fr.inf [] s with
    | some m => match endA f m.fr with
      | true => match retVal E m.st m.fr with
        | some v => some (v, m.st)
        | none => none
      | false => none
    | none => none
  | none => none

/-- A frame that the engine has brought to its end. -/
theorem done_ok {E : Env} {b0 : Nat → Prop} {pd : List (Nat × Blk)} {q : List (List (Nat × Blk))} {ρ : Rho} {σ : Nat → Value} {cs0 : List Frame} (ok : EnvOK E) {m : AM} {f : FuncId} {fr : Frame} {cs : List Frame} {w : World} (hm : MR1 E b0 pd q ρ σ cs0 m fr cs w) (hd : doneA m = true) (he : endA f m.fr = true) {v : AV} (hv : retVal E m.st m.fr = some v) :
    cs = cs0 ∧ q = [] ∧ pd = [] ∧ fr.fn = f ∧ ∃ u, VR ρ σ v u ∧ fr.leaving E.P w (.returned u) := by
  obtain ⟨⟨tm, todo, ⟨fn, nt, defers, mode, kd, ro⟩⟩, callers, s⟩ := m
  obtain ⟨hf, hcs, h⟩ := hm
  unfold endA at he
  simp only [Bool.and_eq_true] at he
  obtain ⟨⟨h1, h2⟩, h3⟩ := he
  have h1 : fn = f := Nat.eq_of_beq_eq_true h1
  unfold doneA at hd
  cases callers with
  | cons _ _ => cases hd
  | nil =>
    cases mode with
    | run => cases hd
    | panicking _ => cases hd
    | returning =>
      cases defers with
      | cons _ _ => cases hd
      | nil =>
        have hk : kd = .normal := by cases kd <;> first | rfl | cases h2
        obtain ⟨hi, tr⟩ := hf.tt.noD h3
        obtain ⟨fnr, u, e1, e2, e3⟩ := retVal_ok ok h tr hv
        exact ⟨hcs.1, hcs.2, hf.tt.noP h3, hf.fn.trans h1, u, e3, hf.mode, hf.defers, hf.kind.trans hk, fnr, by rw [hf.fn]; exact e1, e2⟩

theorem callN_ok {E : Env} {b0 : Nat → Prop} {ρ : Rho} {σ : Nat → Value} {s s' : St} {w : World} (ok : EnvS E σ) (mo : MemoOK E σ) (hw : Hold E.V b0 w) (h : R ⟨b0, [[]]⟩ ρ σ s w) {f : FuncId} {args : List AV} {va : Array Value} (ha : VRs ρ σ args va.toList) {n : Nat} {v : AV} (hx : callN E s f args n = some (v, s')) :
    Calls E.P f va w (CallPost ⟨b0, [[]]⟩ ρ σ v s' w) := by
  intro cs
  unfold callN at hx
  split at hx
  case h_2 => cases hx
  rename_i fr hent
  split at hx
  case h_2 => cases hx
  rename_i m hrun
  rw [runK_eq] at hrun
  split at hx
  case h_2 => cases hx
  rename_i hend
  split at hx
  case h_2 => cases hx
  rename_i v' hv
  cases hx
  have hen := enterA_ok ok.ok ha hent s
  obtain ⟨⟨ρ', f', cs', w', pd', q', hρ, hs, hB, hm⟩, hd⟩ := run_ok ok mo (b0 := b0) (cs0 := cs) n ⟨fr, [], s⟩ m [] [] ρ (Frame.enter E.P f va .normal) cs w hw ⟨hen, ⟨rfl, rfl⟩, h⟩ hrun
  obtain ⟨rfl, rfl, rfl, hfn, u, hu, hl⟩ := done_ok ok.ok hm hd hend hv
  exact ⟨.returned u, w', f', ⟨u, ρ', rfl, hρ, hu, hm.r, hB⟩, hs, hfn, hl⟩
end Go.Eng

/-! The engine's environment of a program; a start; calls that are known. No condition. -/
namespace Go.Eng
open Go.RowKit

/-! ### The environment of a program -/
theorem info_at {P : Program} {t : TypeId} {i : TypeInfo} (h : P.types[t]? = some i) : P.info? t = some i := by
  have := lt_of_get h
  simp [Tables.info?, this] at h ⊢
  exact h

theorem T.get_ofOpts {α : Type} : ∀ (l : List (Option α)) (i : Nat) (t : T α) (j : Nat) (a : α), i + l.length ≤ T.most + 1 → (T.ofOpts l i t).get j = some a → t.get j = some a ∨ ∃ k, j = i + k ∧ l[k]? = some (some a)
  | [], _, _, _, _, _, h => .inl h
  | none :: l, i, t, j, a, hm, h => by
    simp only [List.length_cons] at hm
    rcases T.get_ofOpts l (i + 1) t j a (by omega) h with h' | ⟨k, rfl, h'⟩
    · exact .inl h'
    · exact .inr ⟨k + 1, by omega, h'⟩
  | some x :: l, i, t, j, a, hm, h => by
    simp only [List.length_cons] at hm
    rcases T.get_ofOpts l (i + 1) (t.put i x) j a (by omega) h with h' | ⟨k, rfl, h'⟩
    · rw [T.get_put t i x (by omega)] at h'
      by_cases e : i = j
      · subst e; simp at h'; subst h'; exact .inr ⟨0, rfl, rfl⟩
      · rw [if_neg e] at h'; exact .inl h'
    · exact .inr ⟨k + 1, by omega, h'⟩

theorem T.get_ofList {α : Type} : ∀ (l : List α) (i : Nat) (t : T α) (j : Nat) (a : α), i + l.length ≤ T.most + 1 → (T.ofList l i t).get j = some a → t.get j = some a ∨ ∃ k, j = i + k ∧ l[k]? = some a
  | [], _, _, _, _, _, h => .inl h
  | x :: l, i, t, j, a, hm, h => by
    simp only [List.length_cons] at hm
    rcases T.get_ofList l (i + 1) (t.put i x) j a (by omega) h with h' | ⟨k, rfl, h'⟩
    · rw [T.get_put t i x (by omega)] at h'
      by_cases e : i = j
      · subst e; simp at h'; subst h'; exact .inr ⟨0, rfl, rfl⟩
      · rw [if_neg e] at h'; exact .inl h'
    · exact .inr ⟨k + 1, by omega, h'⟩

theorem undOf_eq {P : Program} {t : TypeId} {i : TypeInfo} {d : TypeDesc} (h : P.types[t]? = some i) (hd : undOf P i = some d) : P.underlying t = some d := by
  unfold Program.underlying
  rw [info_at h]
  unfold undOf at hd
  split at hd
  · rename_i u hu
    cases hx : P.types[u]? with
    | none => rw [hx] at hd; cases hd
    | some iu =>
      rw [hx] at hd
      obtain ⟨desc, _⟩ := i
      simp only at hu
      subst hu
      simp [info_at hx] at hd ⊢
      exact hd
  · rename_i hno
    obtain ⟨desc, _⟩ := i
    cases hd
    simp only
    split
    · rename_i heq
      cases heq
      exact absurd rfl (hno _ _)
    · rename_i heq
      cases heq; rfl
    · rename_i heq; cases heq

theorem EnvOK.of {P : Program} (ht : P.types.size ≤ T.most) (hf : P.funcs.size ≤ T.most) (hm : P.follows .mixedOrders = true) : EnvOK (Env.of P) := by
  refine ⟨fun t ti h => ?_, fun f i h => ?_, hm⟩
  · rcases T.get_ofOpts _ 0 .leaf t ti (by simp; omega) h with h | ⟨k, e, h⟩
    · rw [T.get_leaf] at h; cases h
    · rw [Nat.zero_add] at e
      subst e
      simp only [List.getElem?_map, Array.getElem?_toList] at h
      cases hx : P.types[t]? with
      | none => rw [hx] at h; cases h
      | some i =>
        rw [hx] at h
        simp only [Option.map_some, Option.some.injEq] at h
        unfold mkTy at h
        split at h
        · cases h
        · rename_i d hd
          cases h
          exact ⟨i, info_at hx, rfl, rfl, rfl, rfl, undOf_eq hx hd, rfl⟩
  · rcases T.get_ofList _ 0 .leaf f i (by simp; omega) h with h | ⟨k, e, h⟩
    · rw [T.get_leaf] at h; cases h
    · rw [Nat.zero_add] at e
      subst e
      simp only [List.getElem?_map, Array.getElem?_toList] at h
      cases hx : P.funcs[f]? with
      | none => rw [hx] at h; cases h
      | some g =>
        rw [hx] at h
        simp only [Option.map_some, Option.some.injEq] at h
        subst h
        exact ⟨hx, rfl⟩

theorem EnvOK.with {E : Env} (ok : EnvOK E) (m : FuncId → List AV → St → Option (AV × St)) : EnvOK { E with memo := m } := ⟨ok.ty, ok.fns, ok.mixed⟩
theorem MemoOK.none {P : Program} (σ : Nat → Value) : MemoOK (Env.of P) σ := fun _ _ _ _ _ h => by cases h

/-! ### The variables -/
/-- A cell without an address. -/
def plainA : AV → Bool
  | .bool _ | .int _ _ | .str _ | .nilptr | .nilslice | .nilmap | .nilFunc | .nilIface | .unk | .sym _ => true
  | _ => false
theorem plainA_any {ρ ρ' : Rho} {σ : Nat → Value} {a : AV} (h : plainA a = true) {v : Value} (hv : VR ρ σ a v) : VR ρ' σ a v := by
  cases a <;> first | exact hv | cases h
theorem plains_any {ρ ρ' : Rho} {σ : Nat → Value} : ∀ {l : List AV} {vs : List Value}, (∀ a ∈ l, plainA a = true) → VRs ρ σ l vs → VRs ρ' σ l vs
  | [], _, _, h => h
  | a :: l, _, hp, ⟨v, r, e, h, hl⟩ => ⟨v, r, e, plainA_any (hp a (by simp)) h, plains_any (fun b hb => hp b (by simp [hb])) hl⟩

/-- A cell that comes to no block but the variables' and what lies behind them. -/
def lowA : AV → Bool
  | .ptr i _ => Nat.blt i gN
  | .slice i _ _ _ _ => Nat.blt i gN
  | a => plainA a
theorem lowA_any {ρ ρ' : Rho} {σ : Nat → Value} (hρ : ∀ g L, g < gN → ρ g = some L → ρ' g = some L) : ∀ {a : AV}, lowA a = true → ∀ {v : Value}, VR ρ σ a v → VR ρ' σ a v
  | .ptr _ _, h, _, ⟨L, hL, e⟩ => ⟨L, hρ _ _ (Nat.le_of_ble_eq_true h) hL, e⟩
  | .slice _ _ _ _ _, h, _, ⟨L, b, c, hL, r⟩ => ⟨L, b, c, hρ _ _ (Nat.le_of_ble_eq_true h) hL, r⟩
  | .bool _, _, _, e => e
  | .int _ _, _, _, e => e
  | .str _, _, _, e => e
  | .nilptr, _, _, e => e
  | .nilslice, _, _, e => e
  | .nilmap, _, _, e => e
  | .nilFunc, _, _, e => e
  | .nilIface, _, _, e => e
  | .unk, _, _, e => e
  | .sym _, _, _, e => e
  | .map _, h, _, _ => Bool.noConfusion h
  | .func _ _ _, h, _, _ => Bool.noConfusion h
  | .yield _, h, _, _ => Bool.noConfusion h
  | .iface _ _, h, _, _ => Bool.noConfusion h
  | .agg _, h, _, _ => Bool.noConfusion h
  | .tuple _, h, _, _ => Bool.noConfusion h
  | .any, h, _, _ => Bool.noConfusion h
theorem lows_any {ρ ρ' : Rho} {σ : Nat → Value} (hρ : ∀ g L, g < gN → ρ g = some L → ρ' g = some L) : ∀ {l : List AV} {vs : List Value}, (∀ a ∈ l, lowA a = true) → VRs ρ σ l vs → VRs ρ' σ l vs
  | [], _, _, h => h
  | a :: l, _, hp, ⟨v, r, e, h, hl⟩ => ⟨v, r, e, lowA_any hρ (hp a (by simp)) h, lows_any hρ (fun b hb => hp b (by simp [hb])) hl⟩
/-- A variable: its block, its cells, their type; or what lies behind one. -/
structure Gv where
  g : Nat
  cs : List AV
  el : TypeId

noncomputable def stOf : List Gv → St
  | [] => ⟨gN, .leaf⟩
  | x :: l => (stOf l).put x.g (.cells x.cs x.el false)

noncomputable def hasG : List Gv → St → Bool
  | [], _ => true
  | x :: l, s => match s.get x.g with
    | some (.cells cs el false) => Nat.beq x.el el && avEqs x.cs cs && hasG l s
    | _ => false

structure GlOK (l : List Gv) : Prop where
  small : ∀ x ∈ l, x.g < gN
  low : ∀ x ∈ l, ∀ a ∈ x.cs, lowA a = true

theorem stOf_next : ∀ l : List Gv, (stOf l).next = gN
  | [] => rfl
  | x :: l => by unfold stOf; rw [St.next_put, stOf_next l]

theorem gN_most : gN ≤ T.most := by unfold gN T.most; omega

theorem stOf_get : ∀ (l : List Gv), (∀ x ∈ l, x.g < gN) → ∀ (i : Nat) (b : Blk), (stOf l).get i = some b → ∃ x ∈ l, i = x.g ∧ b = .cells x.cs x.el false
  | [], _, i, b, h => by
    have h : (T.leaf : T Blk).get i = some b := h
    rw [T.get_leaf] at h; cases h
  | x :: l, hs, i, b, h => by
    unfold stOf at h
    have hx := hs x (by simp)
    rw [St.get_put _ _ _ (by have := gN_most; omega)] at h
    by_cases e : x.g = i
    · rw [if_pos e] at h
      cases h
      exact ⟨x, by simp, e.symm, rfl⟩
    · rw [if_neg e] at h
      obtain ⟨y, hy, h1, h2⟩ := stOf_get l (fun y hy => hs y (by simp [hy])) i b h
      exact ⟨y, by simp [hy], h1, h2⟩

theorem hasG_spec : ∀ {l : List Gv} {s : St}, hasG l s = true → ∀ x ∈ l, s.get x.g = some (.cells x.cs x.el false)
  | [], _, _, x, hx => by cases hx
  | y :: l, s, h, x, hx => by
    unfold hasG at h
    split at h
    · rename_i cs el hg
      simp only [Bool.and_eq_true] at h
      obtain ⟨⟨h1, h2⟩, h3⟩ := h
      rcases List.mem_cons.1 hx with rfl | hx
      · rw [hg, Nat.eq_of_beq_eq_true h1, avEqs_eq _ _ h2]
      · exact hasG_spec h3 x hx
    · cases h

section
variable {B : Base} {ρ : Rho} {σ : Nat → Value} {s : St} {w w' : World}

theorem Kept.at {n : Nat} (h : Kept (Base.at n).b w w') : Below n w w' := ⟨h.os, h.tape, h.output, h.size, fun k hk => h.block k hk⟩

/-- What lies there stays as it is while another run goes on behind it. -/
theorem R.frame (h : R B ρ σ s w) (k : Below w.heap.size w w') : R B ρ σ s w' :=
  ⟨h.fresh, h.base, h.most, fun i b hi => by
    rcases h.live i b hi with hv | ⟨L, ob, hL, hob, hb⟩
    · exact .inl hv
    · exact .inr ⟨L, ob, hL, by rw [k.block _ (lt_of_get hob)]; exact hob, hb⟩, h.virt, h.inj, h.own, h.glob, h.vars, fun j hj => Nat.lt_of_lt_of_le (h.size j hj) k.size, h.nd⟩

/-- The variables alone. -/
theorem R.start (h : R B ρ σ s w) {l : List Gv} (hl : GlOK l) (hs : hasG l s = true) : R (.at w.heap.size) (fun i => if i < gN then ρ i else none) σ (stOf l) w := by
  have up : ∀ i b, (stOf l).get i = some b → s.get i = some b ∧ i < gN ∧ ∃ x ∈ l, b = .cells x.cs x.el false := fun i b hi => by
    obtain ⟨x, hx, rfl, rfl⟩ := stOf_get l hl.small i b hi
    exact ⟨hasG_spec hs x hx, hl.small x hx, x, hx, rfl⟩
  refine ⟨fun i hi => ?_, by rw [stOf_next]; exact Nat.le_refl _, by rw [stOf_next]; have := gN_most; omega, fun i b hi => ?_, fun i b hv => (by rw [Base.at_get] at hv; cases hv), fun i j b b' L L' hg hi _ _ _ _ => ?_, fun i b L hi _ hg => ?_, fun i b hi _ => ?_, fun g hg => ?_, fun _ hk => hk, List.nodup_nil⟩
  · rw [stOf_next] at hi; rw [if_neg (by omega)]
  · obtain ⟨h1, h2, x, hx, rfl⟩ := up i b hi
    rcases h.live i _ h1 with ⟨hv, _⟩ | ⟨L, ob, hL, hob, c, t, fr, e, ht, z, hv, r⟩
    · obtain ⟨M, hM, _⟩ := h.vars i h2
      rw [hM] at hv; cases hv
    exact .inr ⟨L, ob, by rw [if_pos h2]; exact hL, hob, c, t, fr, e, ht, z, lows_any (fun g M hg hM => by simp only [if_pos hg]; exact hM) (hl.low x hx) hv, r⟩
  · obtain ⟨_, h2, _⟩ := up i b hi
    omega
  · obtain ⟨_, h2, _⟩ := up i b hi
    omega
  · obtain ⟨_, _, x, _, rfl⟩ := up i b hi
    exact .inl ⟨_, _, rfl⟩
  · simp only [if_pos hg]; exact h.vars g hg

/-- What a block must hold to be a variable's, or what lies behind one. -/
def Holds (ρ : Rho) (σ : Nat → Value) (w : World) (x : Gv) (L : Loc) : Prop :=
  ∃ c t fr, w.heap[L.blk]? = some (.cells c t fr) ∧ (x.el ≠ unkT → t = elOf x.el) ∧ (x.el < tailN → L.sh = 0) ∧ VRs ρ σ x.cs ((c.toList.drop L.sh).take x.cs.length) ∧ x.cs.length ≤ L.ext ∧ L.sh + L.ext ≤ c.size

def rho0 (loc : Nat → Loc) : Rho := fun i => if i < gN then some (loc i) else none

/-- The variables and what lies behind them, in a world where they hold what is told. -/
theorem R.init' {l : List Gv} (hl : GlOK l) (loc : Nat → Loc) (hloc : ∀ g, g < vN → (loc g).blk = g ∧ (loc g).sh = 0) (hw : ∀ x ∈ l, Holds (rho0 loc) σ w x (loc x.g)) : R (.at w.heap.size) (rho0 loc) σ (stOf l) w := by
  refine ⟨fun i hi => ?_, by rw [stOf_next]; exact Nat.le_refl _, by rw [stOf_next]; have := gN_most; omega,
    fun i b hi => ?_, fun i b hv => (by rw [Base.at_get] at hv; cases hv), fun i j b b' L L' hg hi _ _ _ _ => ?_, fun i b L hi _ hg => ?_, fun i b hi _ => ?_, fun g hg => ?_, fun _ hk => hk, List.nodup_nil⟩
  · rw [stOf_next] at hi; unfold rho0; rw [if_neg (by omega)]
  · obtain ⟨x, hx, rfl, rfl⟩ := stOf_get l hl.small i b hi
    obtain ⟨c, t, fr, h2, ht, h3, hv, r1, r2⟩ := hw x hx
    refine .inr ⟨loc x.g, .cells c t fr, ?_, h2, c, t, fr, rfl, ht, h3, hv, r1, r2, fun e => by cases e⟩
    unfold rho0
    rw [if_pos (hl.small x hx)]
  · obtain ⟨x, hx, rfl, _⟩ := stOf_get l hl.small i b hi
    have := hl.small x hx
    omega
  · obtain ⟨x, hx, rfl, _⟩ := stOf_get l hl.small i b hi
    have := hl.small x hx
    omega
  · obtain ⟨x, _, _, rfl⟩ := stOf_get l hl.small i b hi
    exact .inl ⟨_, _, rfl⟩
  · exact ⟨loc g, by unfold rho0; rw [if_pos hg], hloc g⟩

end

/-! ### Known calls -/
/-- In every world that holds the variables a call of this function, without arguments, hands this back, and all that was there stays. -/
def Known (P : Program) (l : List Gv) (f : FuncId) (v : AV) : Prop :=
  ∀ (w : World) (σ : Nat → Value), (∃ ρ, R (.at w.heap.size) ρ σ (stOf l) w) → Calls P f #[] w (fun e w' => ∃ u, e = .returned u ∧ (∀ ρ, VR ρ σ v u) ∧ Below w.heap.size w w')

noncomputable def findM (f : FuncId) : List (FuncId × AV) → Option AV
  | [] => none
  | (g, v) :: l => match Nat.beq f g with | true => some v | false => findM f l
noncomputable def memoOf (gl : List Gv) (rows : List (FuncId × AV)) (f : FuncId) (args : List AV) (s : St) : Option (AV × St) :=
  match args with
  | [] => match findM f rows with
    | some v => match hasG gl s with
      | true => some (v, s)
      | false => none
    | none => none
  | _ => none

theorem findM_mem {f : FuncId} {v : AV} : ∀ {l : List (FuncId × AV)}, findM f l = some v → (f, v) ∈ l
  | [], h => by cases h
  | (g, u) :: l, h => by
    unfold findM at h
    split at h
    · rename_i hb
      cases h
      rw [Nat.eq_of_beq_eq_true hb]; simp
    · simp [findM_mem h]

theorem MemoOK.of {E : Env} {gl : List Gv} (hl : GlOK gl) {rows : List (FuncId × AV)} (h : ∀ x ∈ rows, Known E.P gl x.1 x.2) : ∀ σ, MemoOK { E with memo := memoOf gl rows } σ := by
  intro σ f args s v s' hm B ρ w va _ hR hva
  replace hm : memoOf gl rows f args s = some (v, s') := hm
  unfold memoOf at hm
  split at hm
  case h_2 => cases hm
  split at hm
  case h_2 => cases hm
  rename_i u hf
  split at hm
  case h_2 => cases hm
  rename_i hs
  cases hm
  have e : va = #[] := Array.ext' (by have h : va.toList = [] := hva; simpa using h)
  subst e
  intro cs
  obtain ⟨e, w', fr, ⟨u, rfl, hu, hB⟩, h2⟩ := h (f, v) (findM_mem hf) w σ ⟨_, hR.start hl hs⟩ cs
  exact ⟨_, w', fr, ⟨u, ρ, rfl, Ext.refl _, hu ρ, hR.frame hB, ⟨hB.os, hB.tape, hB.output, hB.size, fun k hk => hB.block k (hR.size k hk)⟩⟩, h2⟩

/-- The engine's run of a call without arguments. -/
noncomputable def runsTo (E : Env) (gl : List Gv) (f : FuncId) (n : Nat) (v : AV) : Bool :=
  match callN E (stOf gl) f [] n with
  | some (x, _) => plainA v && avEq x v
  | none => false

theorem Known.of {E : Env} (ok : ∀ σ, EnvS E σ) (mo : ∀ σ, MemoOK E σ) {gl : List Gv} {f : FuncId} {n : Nat} {v : AV} (h : runsTo E gl f n v = true) (hV : ∀ w, E.V w := by intro _; exact True.intro) : Known E.P gl f v := by
  intro w σ ⟨ρ, hR⟩
  unfold runsTo at h
  split at h
  case h_2 => cases h
  rename_i x s' hx
  simp only [Bool.and_eq_true] at h
  obtain ⟨hp, he⟩ := h
  have := avEq_eq _ _ he
  subst this
  intro cs
  obtain ⟨e, w', fr, ⟨u, ρ', rfl, hρ, hu, hR', hB⟩, h2⟩ := callN_ok (ok σ) (mo σ) (Hold.all hV _ _) hR (args := []) (va := #[]) rfl hx cs
  exact ⟨_, w', fr, ⟨u, rfl, fun ρ'' => plainA_any hp hu, hB.at⟩, h2⟩
end Go.Eng

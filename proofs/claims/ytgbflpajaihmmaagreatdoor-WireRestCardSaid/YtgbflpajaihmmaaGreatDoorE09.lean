/- The engine: an abstract machine that runs closed code of any program, and its proof: part 9 of 12. No condition. -/
import Derived.Test.YtgbflpajaihmmaaGreatDoorE08
/-! The engine's machine is the machine: frames. No condition. -/
namespace Go.Eng
open Go.RowKit

/-- What is to do, and the temporaries. -/
inductive TT (E : Env) (pd : List (Nat × Blk)) (so : Option St) (ρ : Rho) (σ : Nat → Value) (nt : Nat) (tm : T AV) : List AItem → List Item → Array Value → Prop
  | plain {todo : List AItem} {is : List Item} {tmps : Array Value} (hp : pd = []) (h : IRs ρ todo is) (tr : TR ρ σ tm nt tmps) : TT E pd so ρ σ nt tm todo is tmps
  | top {s : St} {ops : Array Oper} {pl : List PI} {k : List AItem} {sch : List Nat} {is : List Item} {tmps : Array Value} (hs : so = some s) (h : IRs ρ k is) (d : DTop E pd s ρ σ ops pl tm nt sch tmps) :
      TT E pd so ρ σ nt tm (.dreg ops pl :: k) (.inRegion ops sch :: is) tmps
  | wait {ops : Array Oper} {pl : List PI} {k : List AItem} {sch : List Nat} {is : List Item} {tmps : Array Value} (hs : so = none) (h : IRs ρ k is) (d : DWait E pd ρ σ ops pl tm nt sch tmps) :
      TT E pd so ρ σ nt tm (.dreg ops pl :: k) (.inRegion ops sch :: is) tmps

structure FrR (E : Env) (pd : List (Nat × Blk)) (so : Option St) (ρ : Rho) (σ : Nat → Value) (fr : AFr) (f : Frame) : Prop where
  fn : f.fn = fr.inf.fn
  kind : f.kind = fr.inf.kind
  ro : RoR ρ fr.inf.roundOf f.roundOf
  defers : DfR ρ σ fr.inf.defers f.defers
  mode : MdR ρ σ fr.inf.mode f.mode
  tt : TT E pd so ρ σ fr.inf.nt fr.tmps fr.todo f.todo f.tmps

def CsR (E : Env) (ρ : Rho) (σ : Nat → Value) (cs0 : List Frame) : List (List (Nat × Blk)) → List AFr → List Frame → Prop
  | q, [], cs => cs = cs0 ∧ q = []
  | q, a :: l, cs => ∃ f r pd q', cs = f :: r ∧ q = pd :: q' ∧ FrR E pd none ρ σ a f ∧ CsR E ρ σ cs0 q' l r

section
variable {E : Env} {B : Base} {ρ ρ' : Rho} {σ : Nat → Value} {s s' : St} {w w' : World} {tm tm' : T AV} {r : Res} {so so' : Option St} {nt : Nat} {pd : List (Nat × Blk)}

theorem TT.ext (hρ : Ext ρ ρ') {todo : List AItem} {is : List Item} {tmps : Array Value} : TT E pd so ρ σ nt tm todo is tmps → TT E pd so ρ' σ nt tm todo is tmps
  | .plain hp h tr => .plain hp (h.ext hρ) (tr.ext hρ)
  | .top hs h d => .top hs (h.ext hρ) (d.ext hρ)
  | .wait hs h d => .wait hs (h.ext hρ) (d.ext hρ)
theorem FrR.ext (hρ : Ext ρ ρ') {fr : AFr} {f : Frame} (h : FrR E pd so ρ σ fr f) : FrR E pd so ρ' σ fr f := ⟨h.fn, h.kind, h.ro.ext hρ, h.defers.ext hρ, h.mode.ext hρ, h.tt.ext hρ⟩
theorem CsR.ext {cs0 : List Frame} (hρ : Ext ρ ρ') : ∀ {q : List (List (Nat × Blk))} {l : List AFr} {cs : List Frame}, CsR E ρ σ cs0 q l cs → CsR E ρ' σ cs0 q l cs
  | _, [], _, e => e
  | _, _ :: _, _, ⟨f, r, pd, q', e, eq, h, hl⟩ => ⟨f, r, pd, q', e, eq, h.ext hρ, CsR.ext hρ hl⟩

theorem IRs.noD : ∀ {todo : List AItem} {is : List Item}, IRs ρ todo is → Eng.noD todo = true
  | [], _, _ => rfl
  | a :: l, _, ⟨_, _, _, h, _⟩ => by cases a <;> first | rfl | exact h.elim
theorem TT.noD {todo : List AItem} {is : List Item} {tmps : Array Value} (h : TT E pd so ρ σ nt tm todo is tmps) (hn : Eng.noD todo = true) : IRs ρ todo is ∧ TR ρ σ tm nt tmps := by
  cases h with
  | plain hp h tr => exact ⟨h, tr⟩
  | top _ _ _ => cases hn
  | wait _ _ _ => cases hn
theorem TT.noP {todo : List AItem} {is : List Item} {tmps : Array Value} (h : TT E pd so ρ σ nt tm todo is tmps) (hn : Eng.noD todo = true) : pd = [] := by
  cases h with
  | plain hp h tr => exact hp
  | top _ _ _ => cases hn
  | wait _ _ _ => cases hn

/-- What a frame was waiting for has come. -/
theorem finish_ok {fr fr' : AFr} {f : Frame} (h : FrR E pd none ρ σ fr f) {x : AV} {v : Value} (hv : VR ρ σ x v) (hf : fr.finish x = some fr') (s : St) : FrR E pd (some s) ρ σ fr' (f.finish v) := by
  obtain ⟨tm, todo, ⟨fn, nt, ds, md, kd, ro⟩⟩ := fr
  obtain ⟨ffn, tmps, ftodo, fds, fmd, fkd, fro⟩ := f
  obtain ⟨h1, h2, h3, h4, h5, h6⟩ := h
  simp only at h1 h2 h3 h4 h5 h6
  unfold AFr.finish at hf
  simp only at hf
  split at hf
  · -- a region in the order of the text
    rename_i ops o rest k
    split at hf
    case h_2 => cases hf
    rename_i tm' hp
    cases hf
    have hpd := h6.noP rfl
    obtain ⟨⟨it, r, e1, ⟨is, e2, hm⟩, hk⟩, tr⟩ := h6.noD rfl
    subst e1; subst e2
    cases is with
    | nil => simp at hm
    | cons i is =>
      simp only [List.map_cons, List.cons.injEq] at hm
      obtain ⟨ho, hm⟩ := hm
      have tr' := putT_ok (a := ⟨tmps, []⟩) tr hp hv
      refine ⟨?_, ?_, ?_, ?_, ?_, .plain (is := .inRegion ops is :: r) hpd ⟨_, _, rfl, ⟨is, rfl, hm⟩, hk⟩ ?_⟩ <;> simp only [Frame.finish, ho, Option.bind_some]
      · exact h1
      · exact h2
      · exact h3
      · exact h4
      · exact h5
      · cases hd : o.dst with
        | none => rw [hd] at tr'; exact tr'
        | some d => rw [hd] at tr'; exact tr'
  · -- a region of a drawn order
    rename_i ops o rest k
    split at hf
    case h_2 => cases hf
    rename_i tm' hp
    cases hf
    cases h6 with
    | plain _ h _ => obtain ⟨_, _, _, h, _⟩ := h; exact h.elim
    | top hs _ _ => cases hs
    | @wait _ _ _ sch is _ _ hk d =>
      obtain ⟨_, all, pn, X, tmM, dd, sch', _, e, _⟩ := id d
      subst e
      obtain ⟨ho, d'⟩ := DWait.finish (a := ⟨tmps, []⟩) d hv hp s
      refine ⟨h1, h2, h3, h4, h5, ?_⟩
      have e : ((⟨ffn, tmps, .inRegion ops (dd.j :: sch') :: is, fds, fmd, fkd, fro⟩ : Frame).finish v) = ⟨ffn, ((⟨tmps, []⟩ : Act).put o.dst v).tmps, .inRegion ops sch' :: is, fds, fmd, fkd, fro⟩ := by
        simp only [Frame.finish, ho, Option.bind_some]
        cases o.dst <;> rfl
      rw [e]
      exact .top rfl hk d'
  · -- a range over a function
    cases hf
    have hpd := h6.noP rfl
    obtain ⟨⟨it, r, e1, ⟨L, hL, e2⟩, hk⟩, tr⟩ := h6.noD rfl
    subst e1; subst e2
    exact ⟨h1, h2, h3, h4, h5, .plain hpd ⟨_, _, rfl, ⟨L, hL, rfl⟩, hk⟩ tr⟩
  · cases hf
    have hpd := h6.noP rfl
    obtain ⟨⟨it, r, e1, e2, hk⟩, tr⟩ := h6.noD rfl
    subst e1; subst e2
    exact ⟨h1, h2, h3, h4, h5, .plain hpd hk tr⟩
  · cases hf

theorem putAll_ok : ∀ (args : List AV) (i : Nat) (tm : T AV) (t : Nat), i + args.length ≤ T.most → tget (putAll args i tm) t = if i ≤ t ∧ t < i + args.length then (args[t - i]?).getD undefA else tget tm t
  | [], i, tm, t, _ => by
    unfold putAll
    rw [if_neg (by simp)]
  | v :: l, i, tm, t, h => by
    unfold putAll
    simp only [List.length_cons] at h
    rw [putAll_ok l (i + 1) _ t (by omega), tget_def (tm.put i v), T.get_put tm i v (by omega), List.length_cons]
    by_cases e : i = t
    · subst e
      rw [if_neg (by omega), if_pos (by omega)]; simp
    · by_cases c : i + 1 ≤ t ∧ t < i + 1 + l.length
      · rw [if_pos c, if_pos (by omega)]
        have : t - i = (t - (i + 1)) + 1 := by omega
        rw [this]; rfl
      · rw [if_neg c, if_neg e, if_neg (by omega), ← tget_def]

/-- A function is entered. -/
theorem enterA_ok (ok : EnvOK E) {f : FuncId} {args : List AV} {va : Array Value} (ha : VRs ρ σ args va.toList) {kind : CallKind} {fr : AFr} (h : enterA E f args kind = some fr) (s : St) : FrR E [] (some s) ρ σ fr (Frame.enter E.P f va kind) := by
  unfold enterA at h
  split at h
  case h_2 => cases h
  rename_i i hi
  split at h
  case h_2 => cases h
  rename_i c hc
  split at h
  case h_2 => cases h
  rename_i hb
  cases h
  obtain ⟨hfn, _⟩ := ok.fns f i hi
  have hlen := ha.length
  have hls : args.length = va.size := by rw [← hlen]; simp
  have hb' : max (len args) i.fn.ntmps ≤ T.most := Nat.le_of_ble_eq_true hb
  have e : Frame.enter E.P f va kind = { fn := f, tmps := va ++ Array.replicate (i.fn.ntmps - va.size) undef, todo := [.code c], defers := [], mode := .run, kind } := by
    simp [Frame.enter, hfn, hc]
  rw [e]
  refine ⟨rfl, rfl, rfl, rfl, rfl, .plain rfl ⟨_, _, rfl, rfl, rfl⟩ ⟨?_, hb', fun t => ?_⟩⟩
  · simp only [Array.size_append, Array.size_replicate, len_eq, hls]; omega
  · rw [len_eq] at hb'
    have hmost : 0 + args.length ≤ T.most := by omega
    show VR ρ σ (tget (putAll args 0 .leaf) t) _
    rw [putAll_ok args 0 .leaf t hmost]
    by_cases c : t < args.length
    · rw [if_pos (by omega)]
      have hl : args[t - 0]? = some args[t] := by simp [c]
      rw [hl]
      obtain ⟨v, hv1, hv2⟩ := ha.nth (show args[t]? = some args[t] by simp [c])
      have : (va ++ Array.replicate (i.fn.ntmps - va.size) undef).getD t undef = v := by
        rw [Array.getD_eq_getD_getElem?, Array.getElem?_append_left (by omega)]
        have : va.toList[t]? = some v := by simpa using hv1
        rw [Array.getElem?_toList] at this
        rw [this]; rfl
      rw [this]; exact hv2
    · rw [if_neg (by omega)]
      have : (va ++ Array.replicate (i.fn.ntmps - va.size) undef).getD t undef = undef := by
        rw [Array.getD_eq_getD_getElem?, Array.getElem?_append_right (by omega), Array.getElem?_replicate]
        split <;> rfl
      rw [this, tget_def, T.get_leaf]
      exact VR_undef
end
end Go.Eng

/-! The engine's machine is the machine: what an operation's result does. No condition. -/
namespace Go.Eng
open Go.RowKit

/-- Where the machine stands, as the engine has it. -/
structure MR1 (E : Env) (b0 : Nat → Prop) (pd : List (Nat × Blk)) (q : List (List (Nat × Blk))) (ρ : Rho) (σ : Nat → Value) (cs0 : List Frame) (m : AM) (fr : Frame) (cs : List Frame) (w : World) : Prop where
  fr : FrR E pd (some m.st) ρ σ m.fr fr
  cs : CsR E ρ σ cs0 q m.callers cs
  r : R ⟨b0, pd :: q⟩ ρ σ m.st w

/-- From this machine the engine's next one is come to. -/
def Goes (E : Env) (b0 : Nat → Prop) (ρ : Rho) (σ : Nat → Value) (cs0 : List Frame) (m' : AM) (M : Machine) (w : World) : Prop :=
  ∃ ρ' fr' cs' w' pd' q', Ext ρ ρ' ∧ Steps E.P M (lone fr' cs' w') ∧ Kept b0 w w' ∧ MR1 E b0 pd' q' ρ' σ cs0 m' fr' cs' w'

section
variable {E : Env} {B : Base} {b0 : Nat → Prop} {pd : List (Nat × Blk)} {q : List (List (Nat × Blk))} {ρ ρ' : Rho} {σ : Nat → Value} {s s' : St} {w w' : World} {tm tm' : T AV} {r : Res} {so so' : Option St} {nt : Nat} {cs0 : List Frame}

theorem Goes.head {m' : AM} {M M' : Machine} (hρ : Ext ρ ρ') (hs : Steps E.P M M') (hB : Kept b0 w w') : Goes E b0 ρ' σ cs0 m' M' w' → Goes E b0 ρ σ cs0 m' M w
  | ⟨ρ2, fr, cs, w2, pd', q', h1, h2, h3, h⟩ => ⟨ρ2, fr, cs, w2, pd', q', hρ.trans h1, hs.trans h2, hB.trans h3, h⟩

theorem FrR.any {fr : AFr} {f : Frame} (h : FrR E pd so ρ σ fr f) (hn : noD fr.todo = true) (so' : Option St) : FrR E pd so' ρ σ fr f :=
  ⟨h.fn, h.kind, h.ro, h.defers, h.mode, .plain (h.tt.noP hn) (h.tt.noD hn).1 (h.tt.noD hn).2⟩

/-- A frame that waits for an operation. -/
structure Stands (E : Env) (pd : List (Nat × Blk)) (ρ : Rho) (σ : Nat → Value) (s : St) (fr : AFr) (b : Frame) (a : Act) (ops : Array Oper) (i : Nat) (is : List Nat) (k : List Item) (o : Oper) (r : Res) : Prop where
  fr : FrR E pd none ρ σ fr (b.atR a (.inRegion ops (i :: is) :: k))
  op : ops[i]? = some o
  want : Region.wanted o (yielded ops a.tmps) = true
  ev : ∃ tmM nt, TR ρ σ tmM nt a.tmps ∧ aop E tmM s o.op = some r

theorem putParams_ok : ∀ (ps : List Tmp) (args : List AV) (tm tm' : T AV) (vs : List Value) (tmps : Array Value), putParams ps args nt tm = some tm' → VRs ρ σ args vs → TR ρ σ tm nt tmps →
    TR ρ σ tm' nt ((ps.zip vs).foldl (fun tmps (t, a) => tmps.setIfInBounds t a) tmps)
  | [], [], tm, tm', vs, tmps, h, hv, tr => by
    unfold putParams at h; cases h; cases hv; exact tr
  | [], _ :: _, _, _, _, _, h, _, _ => by unfold putParams at h; cases h
  | _ :: _, [], _, _, _, _, h, _, _ => by unfold putParams at h; cases h
  | p :: ps, x :: args, tm, tm', vs, tmps, h, hv, tr => by
    obtain ⟨v, r, rfl, h1, h2⟩ := hv
    unfold putParams at h
    split at h
    · rename_i hb
      have hlt : p < nt := by
        have : Nat.ble (p + 1) nt = true := hb
        exact Nat.le_of_ble_eq_true this
      rw [List.zip_cons_cons, List.foldl_cons]
      exact putParams_ok ps args _ tm' r _ h h2 (tr.put hlt h1)
    · cases h

/-- What a call of the engine's comes to is what the machine's call comes to. -/
def CallPost (B : Base) (ρ : Rho) (σ : Nat → Value) (v : AV) (s' : St) (w : World) (e : Ending) (w' : World) : Prop :=
  ∃ u ρ', e = .returned u ∧ Ext ρ ρ' ∧ VR ρ' σ v u ∧ R B ρ' σ s' w' ∧ Kept B.b w w'

/-- This holds of the world, and of what comes of it. -/
structure Hold (V : World → Prop) (b : Nat → Prop) (w : World) : Prop where
  now : V w
  keep : ∀ w1 w2, V w1 → Kept b w1 w2 → V w2
theorem Hold.kept {V : World → Prop} {b : Nat → Prop} {w w' : World} (h : Hold V b w) (hB : Kept b w w') : Hold V b w' := ⟨h.keep _ _ h.now hB, h.keep⟩
theorem Hold.all {V : World → Prop} (h : ∀ w, V w) (b : Nat → Prop) (w : World) : Hold V b w := ⟨h w, fun _ w2 _ _ => h w2⟩
theorem Hold.wide {V : World → Prop} {b b' : Nat → Prop} {w : World} (h : Hold V b w) (hb : ∀ k, b k → b' k) : Hold V b' w :=
  ⟨h.now, fun w1 w2 h1 hK => h.keep w1 w2 h1 ⟨hK.os, hK.tape, hK.output, hK.size, fun k hk => hK.block k (hb k hk)⟩⟩

/-- The calls that are known are so. -/
def MemoOK (E : Env) (σ : Nat → Value) : Prop :=
  ∀ f args s v s', E.memo f args s = some (v, s') → ∀ (B : Base) (ρ : Rho) (w : World) (va : Array Value), Hold E.V B.b w → R B ρ σ s w → VRs ρ σ args va.toList → Calls E.P f va w (CallPost B ρ σ v s' w)

theorem applyA_ok (ok : EnvS E σ) (mo : MemoOK E σ) (hv : Hold E.V b0 w) {fr : AFr} {b : Frame} {a : Act} {ops : Array Oper} {i : Nat} {is : List Nat} {k : List Item} {o : Oper} {callers : List AFr} {cs : List Frame} {m' : AM}
    (st : Stands E pd ρ σ s fr b a ops i is k o r) (hcs : CsR E ρ σ cs0 q callers cs) (h : R ⟨b0, pd :: q⟩ ρ σ s w) (hx : applyA E fr callers r s = some m') :
    Goes E b0 ρ σ cs0 m' (lone (b.atR a (.inRegion ops (i :: is) :: k)) cs w) w := by
  obtain ⟨tmM, nt', tr, hop⟩ := st.ev
  have he := Act.evOK h tr
  have hr := aop_ok ok h he hop
  have hG := stepGR_op (P := E.P) (b := b) (a := a) (k := k) (cs := cs) (w := w) (rest := is) st.op st.want
  cases r with
  | val v s' =>
    unfold applyA at hx
    simp only at hx
    split at hx
    case h_2 => cases hx
    rename_i fr' hf
    cases hx
    obtain ⟨ρ', u, w', hρ, hs, hB, hR, hu⟩ := opval_ok ok (b := b) (k := k) (cs := cs) (rest := is) h tr st.op st.want hop
    have hfin := finish_ok (st.fr.ext hρ) hu hf s'
    rw [Frame.finish_atR, st.op] at hfin
    exact ⟨ρ', _, cs, w', pd, q, hρ, hs, hB, hfin, hcs.ext hρ, hR⟩
  | enter f args s' =>
    have hs : o.semAt b.roundOf a.eval = execOp a.eval o := Oper.semAt_eq _ _ _ (fun c e => by
      rw [e] at hop
      replace hop : oDefer tmM c = some (.enter f args s') := hop
      unfold oDefer at hop
      repeat' (split at hop)
      all_goals cases hop)
    unfold applyA at hx
    simp only at hx
    split at hx
    · rename_i v s2 hmem
      split at hx
      case h_2 => cases hx
      rename_i fr' hf
      cases hx
      cases hrun : (execOp a.eval o).run E.P w with
      | halt e w' =>
        rw [hrun] at hr
        cases e <;> first | exact hr.elim | (obtain ⟨_, _, e, _⟩ := hr; cases e)
      | ok nx w' =>
        rw [hrun] at hr
        obtain ⟨hB, ρ', hρ, hR, va, rfl, hva⟩ := hr
        obtain ⟨e, w2, fr2, ⟨u, ρ2, rfl, hρ2, hu, hR2, hB2⟩, hcomes, hfn, hl⟩ := mo f args s' v s2 hmem ⟨b0, pd :: q⟩ ρ' w' va (hv.kept hB) hR hva (b.atR a (.inRegion ops (i :: is) :: k) :: cs)
        have hfin := finish_ok (st.fr.ext (hρ.trans hρ2)) hu hf s2
        have h1 : Steps E.P (lone (b.atR a (.inRegion ops (i :: is) :: k)) cs w) (lone (Frame.enter E.P f va .normal) (b.atR a (.inRegion ops (i :: is) :: k) :: cs) w') := by
          refine .one (step_lone_go ?_)
          rw [hG, hs]
          simp [stepG.apply, Sem.runT_eq, hrun, Frame.atR]
        exact ⟨ρ2, _, cs, w2, pd, q, hρ.trans hρ2, (h1.trans hcomes).trans (.one (step_leave_returned hl)), hB.trans hB2, hfin, hcs.ext (hρ.trans hρ2), hR2⟩
    split at hx
    case h_2 => cases hx
    rename_i fr' hent
    cases hx
    cases hrun : (execOp a.eval o).run E.P w with
    | halt e w' =>
      rw [hrun] at hr
      cases e <;> first | exact hr.elim | (obtain ⟨_, _, e, _⟩ := hr; cases e)
    | ok nx w' =>
      rw [hrun] at hr
      obtain ⟨hB, ρ', hρ, hR, va, rfl, hva⟩ := hr
      have hen := enterA_ok ok.ok hva hent s'
      refine ⟨ρ', _, _ :: cs, w', [], pd :: q, hρ, .one (step_lone_go ?_), hB, hen, ⟨_, _, _, _, rfl, rfl, st.fr.ext hρ, hcs.ext hρ⟩, hR.rebase rfl (by simp)⟩
      rw [hG, hs]
      simp [stepG.apply, Sem.runT_eq, hrun, Frame.atR]
  | round l args =>
    have hs : o.semAt b.roundOf a.eval = execOp a.eval o := Oper.semAt_eq _ _ _ (fun c e => by
      rw [e] at hop
      replace hop : oDefer tmM c = some (.round l args) := hop
      unfold oDefer at hop
      repeat' (split at hop)
      all_goals cases hop)
    unfold applyA at hx
    simp only at hx
    split at hx
    case h_2 => cases hx
    rename_i st0 pe0 fn tmps nt ps as bd df hl
    split at hx
    case h_2 => cases hx
    rename_i tm' hp
    cases hx
    cases hrun : (execOp a.eval o).run E.P w with
    | halt e w' =>
      rw [hrun] at hr
      cases e <;> first | exact hr.elim | (obtain ⟨_, _, e, _⟩ := hr; cases e)
    | ok nx w' =>
      rw [hrun] at hr
      obtain ⟨hB, ρ', hρ, rfl, rfl, L, va, hL, hva, lp, hlp, hlen, rfl⟩ := hr
      obtain ⟨ob, hob, z, lp', rfl, e1, e2, e3, e4, e5, e6, e7, _⟩ := h.here hl hL
      rw [hlp] at hob; cases hob
      have tr' := putParams_ok _ _ _ _ _ _ hp hva e4
      rw [e5] at hrun
      have hfr : FrR E [] (some s) ρ' σ ⟨tm', [.code as, .beginRound, .code bd], ⟨fn, nt, [], .run, .normal, some l⟩⟩ (Frame.round L.blk lp.fn ((ps.zip va).foldl (fun tmps (t, a) => tmps.setIfInBounds t a) lp.tmps) lp.assign lp.body .normal) :=
        ⟨e3, rfl, ⟨L, hL, rfl⟩, rfl, rfl, .plain rfl (is := [.code lp.assign, .beginRound, .code lp.body]) ⟨_, _, rfl, congrArg Item.code e6, _, _, rfl, rfl, _, _, rfl, congrArg Item.code e7, rfl⟩ tr'⟩
      refine ⟨ρ', _, _ :: cs, w', [], pd :: q, Ext.refl _, .one (step_lone_go ?_), hB, hfr, ⟨_, _, _, _, rfl, rfl, st.fr, hcs⟩, h.rebase rfl (by simp)⟩
      rw [hG, hs]
      simp [stepG.apply, Sem.runT_eq, hrun, Frame.atR, Frame.round]
  | defer d =>
    obtain ⟨tmf, todo, ⟨fn, nt, ds, md, kd, ro⟩⟩ := fr
    unfold applyA at hx
    simp only at hx
    split at hx
    · cases hx
    rename_i hro
    split at hx
    case h_2 => cases hx
    rename_i fr' hf
    cases hx
    have hsf := st.fr
    have hb : b.roundOf = none := hsf.ro
    have hs : o.semAt b.roundOf a.eval = execOp a.eval o := by rw [hb]; rfl
    cases hrun : (execOp a.eval o).run E.P w with
    | halt e w' =>
      rw [hrun] at hr
      cases e <;> first | exact hr.elim | (obtain ⟨_, _, e, _⟩ := hr; cases e)
    | ok nx w' =>
      rw [hrun] at hr
      obtain ⟨hB, ρ', hρ, hn⟩ := hr
      cases d with
      | collected _ => exact hn.elim
      | call f args =>
        obtain ⟨rfl, rfl, va, vc, rfl, hv⟩ := hn
        have hfr : FrR E pd none ρ' σ ⟨tmf, todo, ⟨fn, nt, .call f args :: ds, md, kd, none⟩⟩ (b.atR { a with defers := { target := .fn (.func f) vc, args := va } :: a.defers } (.inRegion ops (i :: is) :: k)) :=
          ⟨hsf.fn, hsf.kind, hsf.ro, ⟨va, vc, _, rfl, hv, hsf.defers⟩, hsf.mode, hsf.tt⟩
        have hfin := finish_ok hfr VR_undef hf s
        refine ⟨ρ', _, cs, w', pd, q, Ext.refl _, .one (step_lone_go ?_), hB, hfin, hcs, h⟩
        rw [hG, hs]
        simp [stepG.apply, Sem.runT_eq, hrun, Frame.atR]
  | recover =>
    have hs : o.semAt b.roundOf a.eval = execOp a.eval o := Oper.semAt_eq _ _ _ (fun c e => by
      rw [e] at hop
      replace hop : oDefer tmM c = some .recover := hop
      unfold oDefer at hop
      repeat' (split at hop)
      all_goals cases hop)
    cases hrun : (execOp a.eval o).run E.P w with
    | halt e w' =>
      rw [hrun] at hr
      cases e <;> first | exact hr.elim | (obtain ⟨_, _, e, _⟩ := hr; cases e)
    | ok nx w' =>
      rw [hrun] at hr
      obtain ⟨hB, ρ', hρ, rfl, rfl, rfl⟩ := hr
      unfold applyA at hx
      simp only at hx
      split at hx
      case h_2 => cases hx
      rename_i tmc todoc fnc ntc dsc mdc kdc roc csA hro hkd
      have hb : b.roundOf = none := by have := st.fr.ro; rw [hro] at this; exact this
      have hk : b.kind = .deferred := st.fr.kind.trans hkd
      obtain ⟨cf, cr, pd1, q1, rfl, rfl, hc, hcr⟩ := hcs
      split at hx
      · rename_i v older
        split at hx
        case h_2 => cases hx
        rename_i fr' hf
        cases hx
        obtain ⟨ps, hps, u, pr, rfl, hu, hpr⟩ := hc.mode
        have hfin := finish_ok st.fr hu hf s
        have hc' : FrR E pd1 none ρ' σ ⟨tmc, todoc, ⟨fnc, ntc, dsc, .panicking ((v, true) :: older), kdc, roc⟩⟩ { cf with mode := .panicking ({ v := u, recovered := true, goexit := false } :: pr) } :=
          ⟨hc.fn, hc.kind, hc.ro, hc.defers, ⟨_, rfl, u, pr, rfl, hu, hpr⟩, hc.tt⟩
        refine ⟨ρ', _, _ :: cr, w', pd, pd1 :: q1, Ext.refl _, .one (step_lone_go ?_), hB, hfin, ⟨_, _, _, _, rfl, rfl, hc', hcr⟩, h⟩
        rw [hG, hs]
        simp [stepG.apply, Sem.runT_eq, hrun, Frame.atR, hb, hk, tryRecover, hps]
      · rename_i hno
        split at hx
        case h_2 => cases hx
        rename_i fr' hf
        cases hx
        have hfin := finish_ok st.fr (x := .nilIface) (v := .nilIface) rfl hf s
        refine ⟨ρ', _, cf :: cr, w', pd, pd1 :: q1, Ext.refl _, .one (step_lone_go ?_), hB, hfin, ⟨_, _, _, _, rfl, rfl, hc, hcr⟩, h⟩
        have htry : tryRecover (b.atR a (.inRegion ops (i :: is) :: k)) (cf :: cr) = none := by
          have hk' : (b.atR a (.inRegion ops (i :: is) :: k)).kind = .deferred := hk
          unfold tryRecover
          rw [hk']
          simp only
          have hm := hc.mode
          cases mdc with
          | run => rw [show cf.mode = .run from hm]
          | returning => rw [show cf.mode = .returning from hm]
          | panicking ch =>
            obtain ⟨ps, hps, hpr⟩ := hm
            rw [hps]
            cases ch with
            | nil => cases hpr; rfl
            | cons x l =>
              obtain ⟨x1, x2⟩ := x
              obtain ⟨u, pr, rfl, _, _⟩ := hpr
              cases x2 with
              | true => rfl
              | false => exact absurd rfl (hno _ _)
        rw [hG, hs]
        simp [stepG.apply, Sem.runT_eq, hrun, Frame.atR, hb] at htry ⊢
        simp [htry]
  | panic v =>
    have hs : o.semAt b.roundOf a.eval = execOp a.eval o := Oper.semAt_eq _ _ _ (fun c e => by
      rw [e] at hop
      replace hop : oDefer tmM c = some (.panic v) := hop
      unfold oDefer at hop
      repeat' (split at hop)
      all_goals cases hop)
    obtain ⟨tmf, todo, ⟨fn, nt, ds, md, kd, ro⟩⟩ := fr
    unfold applyA at hx
    simp only at hx
    split at hx
    case h_2 => cases hx
    split at hx
    case h_2 => cases hx
    rename_i hnd
    cases hx
    cases hrun : (execOp a.eval o).run E.P w with
    | ok nx w' =>
      rw [hrun] at hr
      obtain ⟨_, _, _, hn⟩ := hr
      exact hn.elim
    | halt e w' =>
      rw [hrun] at hr
      cases e <;> first | exact hr.elim | skip
      rename_i u
      obtain ⟨rfl, x, e, hxu⟩ := hr
      cases e
      have hf := st.fr
      refine ⟨ρ, _, cs, w', pd, q, Ext.refl _, .one (step_lone_go (fr' := { b.atR a (.inRegion ops (i :: is) :: k) with mode := .panicking [{ v := u, recovered := false }] }) (w' := w') (cs' := cs) ?_), Kept.refl _ _,
        ⟨hf.fn, hf.kind, hf.ro, hf.defers, ⟨_, rfl, u, [], rfl, hxu, rfl⟩, .plain (hf.tt.noP hnd) (hf.tt.noD hnd).1 (hf.tt.noD hnd).2⟩, hcs, h⟩
      rw [hG, hs]
      simp [stepG.apply, Sem.runT_eq, hrun, Frame.raise_atR]
end
end Go.Eng

/-! The engine's machine is the machine: returns. No condition. -/
namespace Go.Eng
open Go.RowKit

theorem Frame.as_atR {f : Frame} (h : f.mode = .run) : f = f.atR { tmps := f.tmps, defers := f.defers } f.todo := by
  cases f; simp_all [Frame.atR]

section
variable {E : Env} {b0 : Nat → Prop} {q : List (List (Nat × Blk))} {ρ ρ' : Rho} {σ : Nat → Value} {s s' : St} {w w' : World} {tm tm' : T AV} {r : Res} {so so' : Option St} {nt : Nat} {cs0 : List Frame}

/-- A value goes to the caller. -/
theorem doReturnA_ok {P : Program} {f : Frame} {callers : List AFr} {cs : List Frame} (hcs : CsR E ρ σ cs0 q callers cs) (h : R ⟨b0, [] :: q⟩ ρ σ s w) {x : AV} {v : Value} (hv : VR ρ σ x v) {m' : AM} (hx : doReturnA f.kind callers x s = some m') :
    ∃ fr' cs' pd' q', (doReturn P true f cs none v w).bare = .go { frame := fr', callers := cs', status := .running, dying := none } w ∧ MR1 E b0 pd' q' ρ σ cs0 m' fr' cs' w := by
  unfold doReturnA at hx
  split at hx
  · cases hx
  rename_i c cl
  obtain ⟨cf, cr, pd1, q1, rfl, rfl, hc, hcr⟩ := hcs
  have h' : R ⟨b0, pd1 :: q1⟩ ρ σ s w := h.rebase rfl (by simp)
  split at hx
  · rename_i hk
    split at hx
    case h_2 => cases hx
    rename_i c' hf
    cases hx
    exact ⟨cf.finish v, cr, pd1, q1, by simp [doReturn, hk], finish_ok hc hv hf s, hcr, h'⟩
  · rename_i hk
    obtain ⟨tmc, todoc, ⟨fnc, ntc, dsc, mdc, kdc, roc⟩⟩ := c
    simp only at hx
    split at hx
    case h_2 => cases hx
    rename_i hn
    have hb := hc.any hn (some s)
    split at hx
    · rename_i v0 older
      cases hx
      obtain ⟨ps, hps, u, pr, rfl, hu, hpr⟩ := hc.mode
      refine ⟨{ cf with mode := .returning }, cr, pd1, q1, ?_, ⟨hb.fn, hb.kind, hb.ro, hb.defers, rfl, hb.tt⟩, hcr, h'⟩
      simp [doReturn, hk, hps, PnR.plain hpr]
    · rename_i hno
      cases hx
      refine ⟨cf, cr, pd1, q1, ?_, hb, hcr, h'⟩
      have hm := hc.mode
      cases mdc with
      | run => simp [doReturn, hk, show cf.mode = .run from hm]
      | returning => simp [doReturn, hk, show cf.mode = .returning from hm]
      | panicking ch =>
        obtain ⟨ps, hps, hpr⟩ := hm
        cases ch with
        | nil => cases hpr; simp [doReturn, hk, hps]
        | cons x l =>
          obtain ⟨x1, x2⟩ := x
          obtain ⟨u, pr, rfl, _, _⟩ := hpr
          cases x2 with
          | true => exact absurd rfl (hno _ _)
          | false => simp [doReturn, hk, hps]
  · cases hx
end
end Go.Eng

/-! The engine's machine is the machine: results. No condition. -/
namespace Go.Eng
open Go.RowKit

section
variable {E : Env} {B : Base} {ρ ρ' : Rho} {σ : Nat → Value} {s s' : St} {w w' : World} {tm tm' : T AV} {nt : Nat}

def resOf (tmps : Array Value) : ResultVar → Sem Value
  | .tmp t => pure (tmps.getD t undef)
  | .cell a t => do loadVar t (← asAddr (tmps.getD a undef))

theorem results_def (fn : Func) (tmps : Array Value) : results fn tmps = (do
    let vs ← fn.results.mapM (resOf tmps)
    pure (if h : vs.size = 1 then vs[0] else .tuple vs)) := by
  unfold results
  congr 2

theorem resultsA_ok (ok : EnvOK E) (h : R B ρ σ s w) {tmps : Array Value} (tr : TR ρ σ tm nt tmps) : ∀ {rs : List ResultVar} {as : List AV}, resultsA E s tm rs = some as →
    ∃ vs, (rs.mapM (resOf tmps) : Sem (List Value)).run E.P w = .ok vs w ∧ VRs ρ σ as vs
  | [], as, hx => by
    unfold resultsA at hx; cases hx
    exact ⟨[], by simp, rfl⟩
  | r :: rs, as, hx => by
    unfold resultsA at hx
    split at hx
    case h_2 => cases hx
    rename_i a ha
    split at hx
    case h_2 => cases hx
    rename_i l hl
    cases hx
    obtain ⟨vs, h1, h2⟩ := resultsA_ok ok h tr hl
    have : ∃ v, (resOf tmps r).run E.P w = .ok v w ∧ VR ρ σ a v := by
      unfold resultA at ha
      cases r with
      | tmp t => cases ha; exact ⟨_, rfl, tr.vals t⟩
      | cell c t =>
        simp only at ha
        split at ha
        case h_2 => cases ha
        rename_i i o hp
        have hv := tr.vals c
        rw [hp] at hv
        obtain ⟨L, hL, hv⟩ := hv
        obtain ⟨v, h3, h4⟩ := loadA_spec ok h ha hL
        refine ⟨v, ?_, h4⟩
        simp only [resOf, hv, asAddr, Sem.run_bind, Sem.run_pure, Result.andThen_ok]
        exact h3
    obtain ⟨v, h3, h4⟩ := this
    exact ⟨v :: vs, by simp [List.mapM_cons, h3, h1], v, vs, rfl, h4, h2⟩

theorem retVal_ok (ok : EnvOK E) (h : R B ρ σ s w) {fr : AFr} {tmps : Array Value} {nt : Nat} (tr : TR ρ σ fr.tmps nt tmps) {a : AV} (hx : retVal E s fr = some a) :
    ∃ fn v, E.P.funcs[fr.inf.fn]? = some fn ∧ (results fn tmps).run E.P w = .ok v w ∧ VR ρ σ a v := by
  unfold retVal at hx
  split at hx
  case h_2 => cases hx
  rename_i i hi
  obtain ⟨h1, _⟩ := ok.fns _ _ hi
  refine ⟨i.fn, ?_⟩
  split at hx
  · rename_i v hv
    cases hx
    obtain ⟨vs, h2, h3⟩ := resultsA_ok ok h tr hv
    obtain ⟨u, r, rfl, hu, hr⟩ := h3
    cases hr
    refine ⟨u, h1, ?_, hu⟩
    rw [results_def, Array.mapM_eq_mapM_toList]
    simp [h2]
  · rename_i vs' hv hne
    cases hx
    obtain ⟨vs, h2, h3⟩ := resultsA_ok ok h tr hne
    refine ⟨.tuple vs.toArray, h1, ?_, _, rfl, by simpa using h3⟩
    have hl := h3.length
    have : ¬ vs.length = 1 := fun e => by
      rw [hl] at e
      cases vs' with
      | nil => simp at e
      | cons x l =>
        cases l with
        | nil => exact hv x rfl
        | cons => simp at e
    rw [results_def, Array.mapM_eq_mapM_toList]
    simp [h2, this]
  · cases hx
end
end Go.Eng

/-! The engine's machine is the machine: one step. No condition. -/
namespace Go.Eng
open Go.RowKit

section
variable {E : Env} {B : Base} {b0 : Nat → Prop} {pd : List (Nat × Blk)} {q : List (List (Nat × Blk))} {ρ ρ' : Rho} {σ : Nat → Value} {s s' : St} {w w' : World} {tm tm' : T AV} {nt : Nat} {cs0 : List Frame}

theorem exitA_ok {id : Nat} : ∀ {k : List AItem} {is : List Item}, IRs ρ k is → (∀ k', exitA id k = some k' → ∃ is', exitTo id is = some is' ∧ IRs ρ k' is') ∧ (exitA id k = none → exitTo id is = none)
  | [], is, h => by
    cases h
    exact ⟨fun k' e => by simp [exitA] at e, fun _ => rfl⟩
  | a :: l, is, ⟨i, r, e, ha, hl⟩ => by
    subst e
    obtain ⟨h1, h2⟩ := exitA_ok (id := id) hl
    cases a with
    | inBlock id' =>
      cases ha
      unfold exitA exitTo
      cases hb : Nat.beq id' id with
      | true =>
        have e : id' = id := Nat.eq_of_beq_eq_true hb
        subst e
        simp only [beq_self_eq_true, if_true]
        exact ⟨fun k' e => by cases e; exact ⟨_, rfl, hl⟩, fun e => by cases e⟩
      | false =>
        have e : (id' == id) = false := by
          cases hq : (id' == id) with
          | false => rfl
          | true =>
            have : id' = id := by simpa using hq
            subst this; simp at hb
        simp only [e, Bool.false_eq_true, if_false]
        exact ⟨h1, h2⟩
    | code c => cases ha; exact ⟨h1, h2⟩
    | inLoop c => cases ha; exact ⟨h1, h2⟩
    | reg ops l => obtain ⟨is', rfl, _⟩ := ha; exact ⟨h1, h2⟩
    | dreg _ _ => exact ha.elim
    | inRangeFunc l => obtain ⟨L, _, rfl⟩ := ha; exact ⟨h1, h2⟩
    | endRangeFunc l => obtain ⟨L, _, rfl⟩ := ha; exact ⟨h1, h2⟩
    | beginRound => cases ha; exact ⟨h1, h2⟩

theorem loop_at (h : R B ρ σ s w) {l : Nat} {L : Loc} (hL : ρ l = some L) {st : LoopState} {pe : Option Code} {fn : FuncId} {tmps : T AV} {nt : Nat} {ps : List Tmp} {as bd : Code} {df : Nat} (hl : s.get l = some (.loop st pe fn tmps nt ps as bd df)) :
    ∃ lp : Loop, w.heap[L.blk]? = some (.loop lp) ∧ lp.state = st ∧ lp.pending = pe ∧ BO ρ σ L (.loop st pe fn tmps nt ps as bd df) (.loop lp) ∧ gN ≤ l := by
  obtain ⟨ob, hob, hb⟩ := h.here hl hL
  obtain ⟨z, lp, rfl, e1, e2, r⟩ := id hb
  refine ⟨lp, hob, e1, e2, hb, ?_⟩
  rcases Nat.lt_or_ge l gN with h' | h'
  · obtain ⟨_, _, e⟩ := h.glob l _ hl h'
    cases e
  · exact h'

/-- The record of a loop is written. -/
theorem loop_set (h : R B ρ σ s w) {l : Nat} {L : Loc} (hL : ρ l = some L) {st st' : LoopState} {pe pe' : Option Code} {fn : FuncId} {tmps : T AV} {nt : Nat} {ps : List Tmp} {as bd : Code} {df : Nat}
    (hl : s.get l = some (.loop st pe fn tmps nt ps as bd df)) {lp : Loop} (hlp : w.heap[L.blk]? = some (.loop lp)) :
    Kept B.b w { w with heap := w.heap.setIfInBounds L.blk (.loop { lp with state := st', pending := pe' }) } ∧
    R B ρ σ (s.put l (.loop st' pe' fn tmps nt ps as bd df)) { w with heap := w.heap.setIfInBounds L.blk (.loop { lp with state := st', pending := pe' }) } := by
  obtain ⟨lp', hlp', e1, e2, hb, hg⟩ := loop_at h hL hl
  rw [hlp] at hlp'; cases hlp'
  obtain ⟨z, lp2, e, _, _, e3, e4, e5, e6, e7, e8⟩ := hb
  cases e
  have k := Upd.setObj w L.blk (.loop { lp with state := st', pending := pe' }) (lt_of_get hlp)
  exact ⟨k.below (h.own l _ L hl hL hg), h.upd hl hL hg k ⟨z, _, rfl, rfl, rfl, e3, e4, e5, e6, e7, e8⟩⟩

/-- A frame is left. -/
theorem leaveA_ok {fr : AFr} {b : Frame} {a : Act} {todo : List Item} {callers : List AFr} {cs : List Frame} {jump : Option Code} {m' : AM} (hf : FrR E pd (some s) ρ σ fr (b.atR a todo)) (hn : noD fr.todo = true) (hcs : CsR E ρ σ cs0 q callers cs)
    (h : R ⟨b0, pd :: q⟩ ρ σ s w) (hx : leaveA fr callers s jump = some m')
    (hstep : (b.roundOf = none → (jump = none ∨ jump = some .ret) → step E.P (lone (b.atR a todo) cs w) = .next (lone { b.atR a todo with mode := .returning } cs w)) ∧
      (∀ l v w1, b.roundOf = some l → (Instr.endRound l jump).run E.P w = .ok v w1 → ∀ fr' cs', (doReturn E.P true (b.atR a todo) cs none v w1).bare = .go { frame := fr', callers := cs', status := .running, dying := none } w1 → step E.P (lone (b.atR a todo) cs w) = .next (lone fr' cs' w1))) :
    Goes E b0 ρ σ cs0 m' (lone (b.atR a todo) cs w) w := by
  have hpd := hf.tt.noP hn
  subst hpd
  obtain ⟨tm, atodo, ⟨fn, nt, ds, md, kd, ro⟩⟩ := fr
  unfold leaveA at hx
  simp only at hx
  split at hx
  · rename_i hro
    have hbr : b.roundOf = none := hf.ro
    have fin : m' = ⟨⟨tm, atodo, ⟨fn, nt, ds, .returning, kd, none⟩⟩, callers, s⟩ → (jump = none ∨ jump = some .ret) → Goes E b0 ρ σ cs0 m' (lone (b.atR a todo) cs w) w := by
      rintro rfl hj
      exact ⟨ρ, _, cs, w, [], q, Ext.refl _, .one (hstep.1 hbr hj), Kept.refl _ _, ⟨hf.fn, hf.kind, hf.ro, hf.defers, rfl, hf.tt⟩, hcs, h⟩
    split at hx
    · cases hx; exact fin rfl (.inl rfl)
    · cases hx; exact fin rfl (.inr rfl)
    · cases hx
  · rename_i l
    obtain ⟨L, hL, hbr⟩ := hf.ro
    have hbr' : b.roundOf = some L.blk := hbr
    split at hx
    case h_2 => cases hx
    rename_i st pe lfn ltm lnt ps as bd df hl
    obtain ⟨lp, hlp, _⟩ := loop_at h hL hl
    cases jump with
    | none =>
      obtain ⟨hB, hR⟩ := loop_set h hL hl hlp (st' := .ready) (pe' := none)
      have hg : (Instr.getLoop L.blk).run E.P w = .ok lp w := by simp [Instr.getLoop, run_getObj, hlp]
      have hend : (Instr.endRound L.blk (none)).run E.P w = .ok (.bool true) { w with heap := w.heap.setIfInBounds L.blk (.loop { lp with state := .ready, pending := none }) } := by
        unfold Instr.endRound
        simp [hg, setObj, Sem.run, hlp]
      obtain ⟨fr', cs', pd', q', hdo, hm⟩ := doReturnA_ok (P := E.P) (f := b.atR a todo) hcs hR (x := .bool true) (v := .bool true) rfl (m' := m') (by rw [hf.kind]; exact hx)
      exact ⟨ρ, fr', cs', _, pd', q', Ext.refl _, .one (hstep.2 L.blk _ _ hbr' hend fr' cs' hdo), hB, hm⟩
    | some c =>
      obtain ⟨hB, hR⟩ := loop_set h hL hl hlp (st' := .done) (pe' := some c)
      have hg : (Instr.getLoop L.blk).run E.P w = .ok lp w := by simp [Instr.getLoop, run_getObj, hlp]
      have hend : (Instr.endRound L.blk (some c)).run E.P w = .ok (.bool false) { w with heap := w.heap.setIfInBounds L.blk (.loop { lp with state := .done, pending := some c }) } := by
        unfold Instr.endRound
        simp [hg, setObj, Sem.run, hlp]
      obtain ⟨fr', cs', pd', q', hdo, hm⟩ := doReturnA_ok (P := E.P) (f := b.atR a todo) hcs hR (x := .bool false) (v := .bool false) rfl (m' := m') (by rw [hf.kind]; exact hx)
      exact ⟨ρ, fr', cs', _, pd', q', Ext.refl _, .one (hstep.2 L.blk _ _ hbr' hend fr' cs' hdo), hB, hm⟩
end
end Go.Eng

/-! The engine's machine is the machine: a frame that unwinds. No condition. -/
namespace Go.Eng
open Go.RowKit

section
variable {E : Env} {b0 : Nat → Prop} {pd : List (Nat × Blk)} {q : List (List (Nat × Blk))} {ρ ρ' : Rho} {σ : Nat → Value} {s s' : St} {w w' : World} {tm tm' : T AV} {nt : Nat} {cs0 : List Frame}

theorem stepG_unwind {P : Program} {f : Frame} {cs : List Frame} (h : f.mode ≠ .run) : stepG P true { frame := f, callers := cs, status := .running, dying := none } w = unwind P true f cs none w := by
  unfold stepG
  cases hm : f.mode <;> simp_all

theorem unwindA_ok (ok : EnvOK E) {todo : List AItem} {fn : Nat} {defers : List ADef} {mode : AMode} {kd : CallKind} {ro : Option Nat} {f : Frame} {callers : List AFr} {cs : List Frame} {m' : AM}
    (hf : FrR E pd (some s) ρ σ ⟨tm, todo, ⟨fn, nt, defers, mode, kd, ro⟩⟩ f) (hmd : f.mode ≠ .run) (hcs : CsR E ρ σ cs0 q callers cs) (h : R ⟨b0, pd :: q⟩ ρ σ s w) (hx : unwindA E tm todo fn nt defers mode kd ro callers s = some m') :
    Goes E b0 ρ σ cs0 m' (lone f cs w) w := by
  unfold unwindA at hx
  split at hx
  · rename_i d ds
    split at hx
    · rename_i r
      split at hx
      case h_2 => cases hx
      rename_i hn
      split at hx
      case h_2 => cases hx
      rename_i hr
      cases hx
      obtain ⟨L, dr, hL, hd, hdr⟩ := hf.defers
      obtain ⟨ob, hob, z, rfl⟩ := h.here hr hL
      have hg : gN ≤ r := by
        rcases Nat.lt_or_ge r gN with h' | h'
        · obtain ⟨_, _, e⟩ := h.glob r _ hr h'
          cases e
        · exact h'
      have k := Upd.setObj w L.blk (.deferred none) (lt_of_get hob)
      have hR := h.upd hr hL hg k (b' := .deferred false) ⟨z, rfl⟩
      have hf' := hf.any hn (some (s.put r (.deferred false)))
      refine ⟨ρ, { f with defers := dr }, cs, _, pd, q, Ext.refl _, .one (step_lone_go ?_), k.below (h.own r _ L hr hL hg), ⟨hf'.fn, hf'.kind, hf'.ro, hdr, hf'.mode, hf'.tt⟩, hcs, hR⟩
      have ht : (Instr.takeDeferred L.blk).run E.P w = .ok [] { w with heap := w.heap.setIfInBounds L.blk (.deferred none) } := by
        unfold Instr.takeDeferred
        simp [run_getObj, hob, setObj, Sem.run]
      rw [stepG_unwind hmd]
      unfold unwind
      rw [hd]
      simp [Sem.runT_eq, ht]
    · rename_i g args
      split at hx
      case h_2 => cases hx
      rename_i hn
      split at hx
      case h_2 => cases hx
      rename_i g' args' s1 hcall
      split at hx
      case h_2 => cases hx
      rename_i fr' hent
      cases hx
      obtain ⟨va, vc, dr, hd, hv, hdr⟩ := hf.defers
      have hr := callA_ok ok h hv hcall
      cases hrun : (callFunc g (va ++ vc)).run E.P w with
      | halt e w' =>
        rw [hrun] at hr
        cases e <;> first | exact hr.elim | (obtain ⟨_, _, e, _⟩ := hr; cases e)
      | ok nx w' =>
        rw [hrun] at hr
        obtain ⟨hB, ρ', hρ, hR, va', rfl, hva⟩ := hr
        have hen := enterA_ok ok hva hent s1
        have hf' := (hf.any hn none).ext hρ
        refine ⟨ρ', _, { f with defers := dr } :: cs, w', [], pd :: q, hρ, .one (step_lone_go ?_), hB, hen, ⟨_, _, _, _, rfl, rfl, ⟨hf'.fn, hf'.kind, hf'.ro, hdr.ext hρ, hf'.mode, hf'.tt⟩, hcs.ext hρ⟩, hR.rebase rfl (by simp)⟩
        rw [stepG_unwind hmd]
        unfold unwind
        rw [hd]
        simp [callDeferred, Sem.runT_eq, invoke, hrun]
  · have hd : f.defers = [] := hf.defers
    split at hx
    · rename_i chain
      split at hx
      case h_2 => cases hx
      rename_i hnown
      split at hx
      · cases hx
      rename_i i hi
      obtain ⟨hfn, _⟩ := ok.fns _ _ hi
      split at hx
      · cases hx
      rename_i tm1 todo1 fn1 nt1 ds1 md1 kd1 ro1 cl
      split at hx
      case h_2 => cases hx
      rename_i hn1
      cases hx
      have hpd := hf.tt.noP hnown
      subst hpd
      obtain ⟨cf, cr, pd1, q1, rfl, rfl, hc, hcr⟩ := hcs
      have h' : R ⟨b0, pd1 :: q1⟩ ρ σ s w := h.rebase rfl (by simp)
      obtain ⟨ps, hps, hpr⟩ := hf.mode
      have hcat : f.catches E.P = false := by
        unfold Frame.catches
        rw [show f.fn = fn from hf.fn, hfn]
      have hc' := hc.any hn1 (some s)
      have key : ∀ fr1, FrR E pd1 (some s) ρ σ fr1 (cf.raise ps) → Goes E b0 ρ σ cs0 ⟨fr1, cl, s⟩ (lone f (cf :: cr) w) w := by
        intro fr1 hrz
        refine ⟨ρ, cf.raise ps, cr, w, pd1, q1, Ext.refl _, .one (step_lone_go ?_), Kept.refl _ _, hrz, hcr, h'⟩
        rw [stepG_unwind hmd]
        unfold unwind
        rw [hd, hps]
        simp [hcat]
      have hm := hc.mode
      cases md1 with
      | run => exact key _ (by rw [show cf.raise ps = { cf with mode := .panicking ps } by unfold Frame.raise; rw [show cf.mode = .run from hm]]; exact ⟨hc'.fn, hc'.kind, hc'.ro, hc'.defers, ⟨ps, rfl, hpr⟩, hc'.tt⟩)
      | returning => exact key _ (by rw [show cf.raise ps = { cf with mode := .panicking ps } by unfold Frame.raise; rw [show cf.mode = .returning from hm]]; exact ⟨hc'.fn, hc'.kind, hc'.ro, hc'.defers, ⟨ps, rfl, hpr⟩, hc'.tt⟩)
      | panicking old =>
        obtain ⟨po, hpo, hpor⟩ := hm
        exact key _ (by
          rw [show cf.raise ps = { cf with mode := .panicking (ps ++ po) } by unfold Frame.raise; rw [hpo]]
          exact ⟨hc'.fn, hc'.kind, hc'.ro, hc'.defers, ⟨_, rfl, hpr.append hpor⟩, hc'.tt⟩)
    · rename_i hnp
      split at hx
      case h_2 => cases hx
      rename_i hn
      split at hx
      case h_2 => cases hx
      rename_i v hv
      have hret : f.mode = .returning := by
        have hm := hf.mode
        cases mode with
        | run => exact absurd hm hmd
        | returning => exact hm
        | panicking c => exact absurd rfl (hnp c)
      have tr := (hf.tt.noD hn).2
      obtain ⟨fnr, v', h1, h2, h3⟩ := retVal_ok ok h tr hv
      have hpd := hf.tt.noP hn
      subst hpd
      obtain ⟨fr', cs', pd', q', hdo, hm⟩ := doReturnA_ok (P := E.P) (f := f) hcs h h3 (by rw [hf.kind]; exact hx)
      refine ⟨ρ, fr', cs', w, pd', q', Ext.refl _, .one (step_lone_go ?_), Kept.refl _ _, hm⟩
      rw [stepG_unwind hmd]
      unfold unwind
      rw [hd, hret]
      have h1' : E.P.funcs[f.fn]? = some fnr := by rw [hf.fn]; exact h1
      simp [h1', Sem.runT_eq, h2, hdo]
end
end Go.Eng

/-! The engine's machine is the machine: what a frame has to do. No condition. -/
namespace Go.Eng
open Go.RowKit

section
variable {E : Env} {B : Base} {b0 : Nat → Prop} {pd pd' : List (Nat × Blk)} {q : List (List (Nat × Blk))} {ρ ρ' : Rho} {σ : Nat → Value} {s s' : St} {w w' : World} {tm tm' : T AV} {nt : Nat} {cs0 : List Frame} {so : Option St}
  {todo todo' : List AItem} {inf : FrInf} {b : Frame} {a a' : Act} {is is' : List Item} {callers : List AFr} {cs : List Frame} {M : Machine} {m' : AM}

theorem FrR.at' (hf : FrR E pd so ρ σ ⟨tm, todo, inf⟩ (b.atR a is)) (hρ : Ext ρ ρ') (ha : a'.defers = a.defers) {so' : Option St} (tt : TT E pd' so' ρ' σ inf.nt tm' todo' is' a'.tmps) :
    FrR E pd' so' ρ' σ ⟨tm', todo', inf⟩ (b.atR a' is') := by
  have h := hf.ext hρ
  refine ⟨h.fn, h.kind, h.ro, ?_, h.mode, tt⟩
  show DfR ρ' σ inf.defers a'.defers
  rw [ha]; exact h.defers

/-- The frame goes on with something else to do. -/
theorem go1 (hf : FrR E pd so ρ σ ⟨tm, todo, inf⟩ (b.atR a is)) (hρ : Ext ρ ρ') (hs : Steps E.P M (lone (b.atR a' is') cs w')) (ha : a'.defers = a.defers) (hB : Kept b0 w w') (hi : IRs ρ' todo' is') (tr : TR ρ' σ tm' inf.nt a'.tmps)
    (hcs : CsR E ρ σ cs0 q callers cs) (hR : R ⟨b0, [] :: q⟩ ρ' σ s' w') : Goes E b0 ρ σ cs0 ⟨⟨tm', todo', inf⟩, callers, s'⟩ M w :=
  ⟨ρ', _, cs, w', [], q, hρ, hs, hB, hf.at' hρ ha (.plain rfl hi tr), hcs.ext hρ, hR⟩

theorem cReg_ok (ok : EnvS E σ) (mo : MemoOK E σ) (hv : Hold E.V b0 w) {ops : Array Oper} {l : List Oper} {ns : List Nat} {k : List AItem} {ks : List Item} (hf : FrR E pd so ρ σ ⟨tm, todo, inf⟩ (b.atR a is)) (hm : ns.map (ops[·]?) = l.map some) (hk : IRs ρ k ks) (tr : TR ρ σ tm inf.nt a.tmps)
    (hcs : CsR E ρ σ cs0 q callers cs) (h : R ⟨b0, [] :: q⟩ ρ σ s w) (hx : cReg E tm k inf callers s ops l = some m') : Goes E b0 ρ σ cs0 m' (lone (b.atR a (.inRegion ops ns :: ks)) cs w) w := by
  have H := regT_ok ok (b := b) (k := ks) (cs := cs) l ns a tm s ρ w hm tr h
  unfold cReg at hx
  split at hx
  · rename_i tm' s' hr
    rw [hr] at H
    cases hx
    obtain ⟨ρ', a', w', hρ, hs, hB, hR, tr', hd⟩ := H
    exact go1 hf hρ hs hd hB (hk.ext hρ) tr' hcs hR
  · rename_i it tm' s' r hr
    rw [hr] at H
    obtain ⟨o, rest, i, is', ρ', a', w', rfl, hρ, hs, hB, hR, tr', hd, ho, hm', hw, hop⟩ := H
    have hi : IRs ρ' (.reg ops (o :: rest) :: k) (.inRegion ops (i :: is') :: ks) := ⟨_, _, rfl, ⟨_, rfl, by simp [ho, hm']⟩, hk.ext hρ⟩
    exact Goes.head hρ hs hB (applyA_ok ok mo (hv.kept hB) ⟨hf.at' hρ hd (.plain rfl hi tr'), ho, hw, tm', inf.nt, tr', hop⟩ (hcs.ext hρ) hR hx)
  · cases hx

theorem cDReg_ok (ok : EnvS E σ) (mo : MemoOK E σ) (hv : Hold E.V b0 w) {ops : Array Oper} {pl : List PI} {ns : List Nat} {k : List AItem} {ks : List Item} (hf : FrR E pd' so ρ σ ⟨tm, todo, inf⟩ (b.atR a is)) (hk : IRs ρ k ks) (d : DTop E pd s ρ σ ops pl tm inf.nt ns a.tmps)
    (hcs : CsR E ρ σ cs0 q callers cs) (h : R ⟨b0, pd :: q⟩ ρ σ s w) (hx : cDReg E tm k inf callers s ops pl = some m') : Goes E b0 ρ σ cs0 m' (lone (b.atR a (.inRegion ops ns :: ks)) cs w) w := by
  obtain ⟨own, all, pn, X, tmM, rfl, D⟩ := d
  have H := dregT_ok ok (b := b) (k := ks) (cs := cs) pn own pl ns a tm s ρ w X tmM D h
  unfold cDReg at hx
  split at hx
  · rename_i tm' s' hr
    rw [hr] at H
    cases hx
    obtain ⟨ρ', a', w', hρ, hs, hB, hR, tr', hd⟩ := H
    exact go1 hf hρ hs hd hB (hk.ext hρ) tr' hcs hR
  · rename_i it tm' s' r hr
    rw [hr] at H
    obtain ⟨o, rest, i, sch', ρ', a', w', tmM', pd1, rfl, hρ, hs, hB, hR, dw, tr', hd, ho, hw, hop⟩ := H
    exact Goes.head hρ hs hB (applyA_ok ok mo (hv.kept hB) ⟨hf.at' hρ hd (.wait rfl (hk.ext hρ) dw), ho, hw, tmM', inf.nt, tr', hop⟩ (hcs.ext hρ) hR hx)
  · cases hx

theorem range_get (ops : Array Oper) : (List.range ops.size).map (ops[·]?) = ops.toList.map some := by
  apply List.ext_getElem
  · simp
  · intro i h1 h2
    simp at h1 h2 ⊢

/-- A frame is left. -/
theorem leave_code (hb : FrR E pd (some s) ρ σ ⟨tm, todo, inf⟩ (b.atR a is)) (hn : noD todo = true) (hcs : CsR E ρ σ cs0 q callers cs) (h : R ⟨b0, pd :: q⟩ ρ σ s w) {jump : Option Code} (hx : leaveA ⟨tm, todo, inf⟩ callers s jump = some m')
    (hst : stepG E.P true { frame := b.atR a is, callers := cs, status := .running, dying := none } w =
      match b.roundOf with
      | none => if jump matches none | some .ret then .go { frame := { b.atR a is with mode := .returning }, callers := cs, status := .running, dying := none } w else .ended (.stuck "exit, goto: no such block or label" ((b.atR a is).pos E.P)) w
      | some l => let (r, es) := (Instr.endRound l jump).runT E.P w #[]
        GStep.after (seen E.P (b.atR a is).fn es) <| match r with
        | .ok v w => doReturn E.P true (b.atR a is) cs none v w
        | .halt _ w => .ended (.stuck "range over a function: no such loop" ((b.atR a is).pos E.P)) w) :
    Goes E b0 ρ σ cs0 m' (lone (b.atR a is) cs w) w := by
  refine leaveA_ok hb hn hcs h hx ⟨fun hr hj => ?_, fun l v w1 hr he fr' cs' hd => ?_⟩
  · refine step_lone_go ?_
    rw [hst, hr]
    rcases hj with rfl | rfl <;> rfl
  · refine step_lone_go ?_
    rw [hst, hr]
    simp [Sem.runT_eq, he, GStep.bare_after, hd]

theorem stepE_endRange {P : Program} {l : Nat} {jump : Option Code} {k : List Item} (h : (Instr.endLoop l).run P w = .ok jump w') :
    step P (lone (b.atR a (.endRangeFunc l :: k)) cs w) = .next (lone (b.atR a ((jump.map Item.code).toList ++ k)) cs w') :=
  step_lone_go (by simp [stepG, stepG.exec, Frame.atR, Sem.runT_eq, h, GStep.bare_after])

theorem stepE_rangeFunc {P : Program} {g : Operand} {ps : Array Tmp} {assign body : Code} {l : Nat} {mark : List Deferred} {w1 w2 w3 : World} {d : Deferred} {f : FuncId} {args : Array Value} {k : List Item}
    (he : (Instr.enterLoop b.fn a.tmps ps assign body b.roundOf).run P w = .ok (l, mark) w1)
    (hres : (resolve a.eval { callee := .value g, args := #[.const (.func (.yield l) #[] #[])], argTypes := #[] } 0).run P w1 = .ok d w2) (hinv : (invoke d.target d.args).run P w2 = .ok (.enter f args) w3) :
    step P (lone (b.atR a (.code (.rangeFunc g ps assign body) :: k)) cs w) =
      .next (lone (Frame.enter P f args .normal) (b.atR { a with defers := mark ++ a.defers } (.inRangeFunc l :: k) :: cs) w3) :=
  step_lone_go (by
    have hev := Frame.eval_atR b { a with defers := mark ++ a.defers } (.inRangeFunc l :: k)
    simp only [Frame.atR] at hev
    have hres' : Sem.run P (resolve ({ tmps := a.tmps, defers := mark ++ a.defers } : Act).eval { callee := .value g, args := #[.const (.func (.yield l) #[] #[])], argTypes := #[] } 0) w1 = .ok d w2 := hres
    simp [stepG, stepG.exec, Frame.atR, Sem.runT_eq, he, GStep.bare_after, stepG.apply, hev, Sem.run_bind, hres', hinv, Result.andThen])

/-- A loop's record is laid, and, where there is none around it, the block for its rounds' deferred calls. -/
theorem enterLoop_ok {P : Program} (h : R B ρ σ s w) {ro : Option Nat} {rb : Option Nat} (hro : RoR ρ ro rb) {defers ds : List ADef} {dfs : List Deferred} (hd : DfR ρ σ defers dfs) {df : Nat} {s1 s2 : St} (hx : rfDefers s ro defers = some (df, s1, ds))
    {fn : FuncId} {tmps : Array Value} {ps : Array Tmp} {as bd : Code} (tr : TR ρ σ tm nt tmps) {l : Nat} (hn : s1.new (.loop .ready none fn tm nt ps.toList as bd df) = some (l, s2)) :
    ∃ ρ' L mark w', Ext ρ ρ' ∧ (Instr.enterLoop fn tmps ps as bd rb).run P w = .ok (L.blk, mark) w' ∧ Kept B.b w w' ∧ R B ρ' σ s2 w' ∧ ρ' l = some L ∧ DfR ρ' σ ds (mark ++ dfs) := by
  unfold rfDefers at hx
  cases ro with
  | some l0 =>
    simp only at hx
    split at hx
    case h_2 => cases hx
    rename_i st0 pe0 fn0 tm0 nt0 ps0 as0 bd0 df0 hl
    cases hx
    obtain ⟨L0, hL0, rfl⟩ := hro
    obtain ⟨ob, hob, z, lp, rfl, e1, e2, e3, e4, e5, e6, e7, D, hD, e8⟩ := h.here hl hL0
    have hg : (Instr.getLoop L0.blk).run P w = .ok lp w := by simp [Instr.getLoop, run_getObj, hob]
    have k := New.alloc w (.loop { state := .ready, pending := none, fn, tmps, params := ps, assign := as, body := bd, defers := lp.defers })
    obtain ⟨ρ', hρ, hR, hl'⟩ := h.new (e := 0) hn k ⟨rfl, _, rfl, rfl, rfl, rfl, tr, rfl, rfl, rfl, D, hD, e8⟩
    refine ⟨ρ', _, [], _, hρ, ?_, k.below h.size, hR, hl', hd.ext hρ⟩
    simp [Instr.enterLoop, hg]
  | none =>
    simp only at hx
    split at hx
    case h_2 => cases hx
    rename_i r s1' hr
    cases hx
    cases hro
    have k1 := New.alloc w (.deferred (some []))
    obtain ⟨ρ1, hρ1, hR1, hr1⟩ := h.new (e := 0) hr k1 ⟨rfl, rfl⟩
    have k2 := New.alloc (w.alloc (.deferred (some []))) (.loop { state := .ready, pending := none, fn, tmps, params := ps, assign := as, body := bd, defers := w.heap.size })
    obtain ⟨ρ2, hρ2, hR2, hl2⟩ := hR1.new (e := 0) hn k2 ⟨rfl, _, rfl, rfl, rfl, rfl, tr.ext hρ1, rfl, rfl, rfl, _, hr1, rfl⟩
    refine ⟨ρ2, _, [{ target := .collected w.heap.size, args := #[] }], _, hρ1.trans hρ2, ?_, (k1.below h.size).trans (k2.below hR1.size), hR2, hl2, ⟨_, _, hρ2 _ _ hr1, rfl, hd.ext (hρ1.trans hρ2)⟩⟩
    simp [Instr.enterLoop]

theorem cRangeFunc_ok (ok : EnvOK E) {g : Operand} {ps : Array Tmp} {as bd : Code} {k : List AItem} {ks : List Item} (hf : FrR E pd so ρ σ ⟨tm, todo, inf⟩ (b.atR a is)) (hk : IRs ρ k ks) (tr : TR ρ σ tm inf.nt a.tmps)
    (hcs : CsR E ρ σ cs0 q callers cs) (h : R ⟨b0, [] :: q⟩ ρ σ s w) (hx : cRangeFunc E tm k inf callers s g ps as bd = some m') : Goes E b0 ρ σ cs0 m' (lone (b.atR a (.code (.rangeFunc g ps as bd) :: ks)) cs w) w := by
  unfold cRangeFunc at hx
  split at hx
  case h_2 => cases hx
  rename_i f first cap hg
  obtain ⟨fn, nt, defers, md, kd, ro⟩ := inf
  simp only at hx
  split at hx
  · cases hx
  rename_i df s1 ds hdf
  split at hx
  · cases hx
  rename_i l s2 hnew
  split at hx
  case h_2 => cases hx
  rename_i f' args s3 hcall
  split at hx
  case h_2 => cases hx
  rename_i fr' hent
  cases hx
  obtain ⟨ρ1, L, mark, w1, hρ1, he, hB1, hR1, hl, hds⟩ := enterLoop_ok (P := E.P) h hf.ro hf.defers hdf (fn := b.fn) (tmps := a.tmps) tr (by rw [show b.fn = fn from hf.fn]; exact hnew)
  obtain ⟨va, vc, hv, h1, h2⟩ := Act.evOK h tr g _ hg
  have hres : (resolve a.eval { callee := .value g, args := #[.const (.func (.yield L.blk) #[] #[])], argTypes := #[] } 0).run E.P w1 = .ok { target := .fn (.func f) vc, args := va ++ #[.func (.yield L.blk) #[] #[]] } w1 := by
    simp [resolve, hv, Deferred.ofValue]
    rfl
  have hargs : VRs ρ1 σ ((first ++ [.yield l]) ++ cap) ((va ++ #[Value.func (.yield L.blk) #[] #[]]) ++ vc).toList := by
    have hy : VRs ρ1 σ [.yield l] [Value.func (.yield L.blk) #[] #[]] := ⟨_, _, rfl, ⟨L, hl, rfl⟩, rfl⟩
    simp only [Array.toList_append]
    exact ((VRs.ext hρ1 _ _ h1).append hy).append (VRs.ext hρ1 _ _ h2)
  have hr := callA_ok ok hR1 hargs hcall
  cases hrun : (callFunc f ((va ++ #[Value.func (.yield L.blk) #[] #[]]) ++ vc)).run E.P w1 with
  | halt e w' =>
    rw [hrun] at hr
    cases e <;> first | exact hr.elim | (obtain ⟨_, _, e, _⟩ := hr; cases e)
  | ok nx w' =>
    rw [hrun] at hr
    obtain ⟨hB, ρ', hρ, hR, va', rfl, hva⟩ := hr
    have hen := enterA_ok ok hva hent s3
    have hinv : (invoke (.fn (.func f) vc) (va ++ #[Value.func (.yield L.blk) #[] #[]])).run E.P w1 = .ok (.enter f' va') w' := hrun
    refine ⟨ρ', _, _ :: cs, w', [], [] :: q, hρ1.trans hρ, .one (stepE_rangeFunc he hres hinv), hB1.trans hB, hen, ⟨_, _, [], q, rfl, rfl, ?_, hcs.ext (hρ1.trans hρ)⟩, hR.rebase rfl (by simp)⟩
    have hff := hf.ext (hρ1.trans hρ)
    exact ⟨hff.fn, hff.kind, hff.ro, hds.ext hρ, hff.mode, .plain rfl ⟨_, _, rfl, ⟨L, hρ _ _ hl, rfl⟩, hk.ext (hρ1.trans hρ)⟩ (tr.ext (hρ1.trans hρ))⟩

theorem cCode_ok (ok : EnvS E σ) (mo : MemoOK E σ) (hv : Hold E.V b0 w) {c : Code} {k : List AItem} {ks : List Item} (hf : FrR E [] (some s) ρ σ ⟨tm, .code c :: k, inf⟩ (b.atR a (.code c :: ks))) (hk : IRs ρ k ks) (tr : TR ρ σ tm inf.nt a.tmps)
    (hcs : CsR E ρ σ cs0 q callers cs) (h : R ⟨b0, [] :: q⟩ ρ σ s w) (hx : cCodeT c E tm k inf callers s = some m') : Goes E b0 ρ σ cs0 m' (lone (b.atR a (.code c :: ks)) cs w) w := by
  cases c with
  | skip => cases hx; exact go1 hf (Ext.refl _) (.one stepR_skip) rfl (Kept.refl _ _) hk tr hcs h
  | region id ops draw =>
    cases draw with
    | false => exact Goes.head (Ext.refl _) (.one stepR_region) (Kept.refl _ _) (cReg_ok ok mo hv hf (range_get ops) hk tr hcs h hx)
    | true =>
      have hs := stepR_region_draw (P := E.P) (b := b) (a := a) (k := ks) (cs := cs) (w := w) (ops := ops) (id := id)
      rw [ok.ok.mixed] at hs
      refine Goes.head (Ext.refl _) (.one hs) ((Same.drew w).below b0) ?_
      replace hx : cDraw E tm k inf callers s ops = some m' := hx
      unfold cDraw at hx
      split at hx
      case h_2 => cases hx
      rename_i pl hpl
      obtain ⟨all, pn, D⟩ := dplan_start (E := E) (s := s) hpl tr (w.tape w.drawn (.order b.fn id))
      exact cDReg_ok ok mo (hv.kept ((Same.drew w).below b0)) hf hk (pd := []) ⟨[], all, pn, 0, tm, rfl, D⟩ hcs (h.same (Same.drew w)) hx
  | seq x y => cases hx; exact go1 hf (Ext.refl _) (.one stepR_seq) rfl (Kept.refl _ _) ⟨_, _, rfl, rfl, _, _, rfl, rfl, hk⟩ tr hcs h
  | cond c x y =>
    replace hx : cCond tm k inf callers s c x y = some m' := hx
    unfold cCond at hx
    split at hx
    case h_2 => cases hx
    rename_i v hv
    cases hx
    have he : a.eval c = .bool v := Act.evOK h tr c _ hv
    refine go1 hf (Ext.refl _) (.one (stepR_cond he)) rfl (Kept.refl _ _) ⟨_, _, rfl, ?_, hk⟩ tr hcs h
    cases v <;> rfl
  | block id c => cases hx; exact go1 hf (Ext.refl _) (.one stepR_block) rfl (Kept.refl _ _) ⟨_, _, rfl, rfl, _, _, rfl, rfl, hk⟩ tr hcs h
  | loop c => cases hx; exact go1 hf (Ext.refl _) (.one stepR_loop) rfl (Kept.refl _ _) ⟨_, _, rfl, rfl, _, _, rfl, rfl, hk⟩ tr hcs h
  | rangeFunc g ps as bd => exact cRangeFunc_ok ok.ok hf hk tr hcs h hx
  | exit id =>
    replace hx : cExit tm k inf callers s id = some m' := hx
    unfold cExit at hx
    obtain ⟨h1, h2⟩ := exitA_ok (id := id) hk
    split at hx
    · rename_i k' hk'
      cases hx
      obtain ⟨is', e, hi⟩ := h1 k' hk'
      exact go1 hf (Ext.refl _) (.one (stepR_exit e)) rfl (Kept.refl _ _) hi tr hcs h
    · rename_i hk'
      refine leave_code hf rfl hcs h hx ?_
      simp only [stepG, stepG.exec, Frame.atR, h2 hk', Option.elim]
      rfl
  | goto l => cases hx
  | label l => cases hx; exact go1 hf (Ext.refl _) (.one stepR_label) rfl (Kept.refl _ _) hk tr hcs h
  | scope c => cases hx
  | ret => exact leave_code (jump := some .ret) hf rfl hcs h hx rfl
  | refuse y => cases hx
end
end Go.Eng

/- The engine: an abstract machine that runs closed code of any program, and its proof: part 10 of 12. No condition. -/
import Derived.Test.YtgbflpajaihmmaaGreatDoorE09
/-! The engine's machine is the machine: a step, a run, a call. No condition. -/
namespace Go.Eng
open Go.RowKit

section
variable {E : Env} {b0 : Nat → Prop} {pd pd' : List (Nat × Blk)} {q : List (List (Nat × Blk))} {ρ ρ' : Rho} {σ : Nat → Value} {s s' : St} {w w' : World} {tm tm' : T AV} {nt : Nat} {cs0 : List Frame} {so : Option St}
  {todo todo' : List AItem} {inf : FrInf} {b : Frame} {a a' : Act} {is is' : List Item} {callers : List AFr} {cs : List Frame} {M : Machine} {m' : AM}

theorem cEndRange_ok {l : Nat} {L : Loc} {k : List AItem} {ks : List Item} (hf : FrR E pd so ρ σ ⟨tm, todo, inf⟩ (b.atR a is)) (hL : ρ l = some L) (hk : IRs ρ k ks) (tr : TR ρ σ tm inf.nt a.tmps)
    (hcs : CsR E ρ σ cs0 q callers cs) (h : R ⟨b0, [] :: q⟩ ρ σ s w) (hx : cEndRange tm k inf callers s l = some m') : Goes E b0 ρ σ cs0 m' (lone (b.atR a (.endRangeFunc L.blk :: ks)) cs w) w := by
  unfold cEndRange at hx
  split at hx
  case h_2 => cases hx
  rename_i st pe fn tmps nt ps as bd df hl
  obtain ⟨lp, hlp, e1, e2, _⟩ := loop_at h hL hl
  subst e2
  have hst : st ≠ .busy := by rintro rfl; cases hx
  have hx' : some (⟨⟨tm, match lp.pending with | some c => .code c :: k | none => k, inf⟩, callers, s.put l (.loop .exhausted lp.pending fn tmps nt ps as bd df)⟩ : AM) = some m' := by
    rw [← hx]; cases st <;> first | rfl | exact absurd rfl hst
  cases hx'
  obtain ⟨hB, hR⟩ := loop_set h hL hl hlp (st' := .exhausted) (pe' := lp.pending)
  have hg : (Instr.getLoop L.blk).run E.P w = .ok lp w := by simp [Instr.getLoop, run_getObj, hlp]
  have hend : (Instr.endLoop L.blk).run E.P w = .ok lp.pending { w with heap := w.heap.setIfInBounds L.blk (.loop { lp with state := .exhausted, pending := lp.pending }) } := by
    unfold Instr.endLoop
    have hb : (lp.state == LoopState.busy) = false := by rw [e1]; cases st <;> first | rfl | exact absurd rfl hst
    simp only [Sem.run_bind, hg, Result.andThen_ok, hb]
    simp [setObj, Sem.run, hlp]
  refine go1 hf (Ext.refl _) (.one (stepE_endRange hend)) rfl hB ?_ tr hcs hR
  cases lp.pending with
  | none => exact hk
  | some c => exact ⟨_, _, rfl, rfl, hk⟩

theorem cBegin_ok {k : List AItem} {ks : List Item} (hf : FrR E pd so ρ σ ⟨tm, todo, inf⟩ (b.atR a is)) (hk : IRs ρ k ks) (tr : TR ρ σ tm inf.nt a.tmps)
    (hcs : CsR E ρ σ cs0 q callers cs) (h : R ⟨b0, [] :: q⟩ ρ σ s w) (hx : cBegin tm k inf callers s = some m') : Goes E b0 ρ σ cs0 m' (lone (b.atR a (.beginRound :: ks)) cs w) w := by
  obtain ⟨fn, nt, ds, md, kd, ro⟩ := inf
  unfold cBegin at hx
  split at hx
  case h_2 => cases hx
  rename_i l hro
  split at hx
  case h_2 => cases hx
  rename_i pe lfn tmps nt' ps as bd df hl
  cases hx
  have hro' : ro = some l := hro
  subst hro'
  obtain ⟨L, hL, hbr⟩ := hf.ro
  obtain ⟨lp, hlp, e1, e2, _⟩ := loop_at h hL hl
  subst e2
  obtain ⟨hB, hR⟩ := loop_set h hL hl hlp (st' := .busy) (pe' := lp.pending)
  have hg : (Instr.getLoop L.blk).run E.P w = .ok lp w := by simp [Instr.getLoop, run_getObj, hlp]
  have hbeg : (Instr.beginRound L.blk).run E.P w = .ok () { w with heap := w.heap.setIfInBounds L.blk (.loop { lp with state := .busy, pending := lp.pending }) } := by
    unfold Instr.beginRound
    simp [hg, e1, setObj, Sem.run, hlp]
  exact go1 hf (Ext.refl _) (.one (stepR_beginRound hbr hbeg)) rfl hB hk tr hcs hR

theorem runA_ok (ok : EnvS E σ) (mo : MemoOK E σ) (hv : Hold E.V b0 w) (hf : FrR E pd (some s) ρ σ ⟨tm, todo, inf⟩ (b.atR a is)) (hcs : CsR E ρ σ cs0 q callers cs) (h : R ⟨b0, pd :: q⟩ ρ σ s w) (hx : runA E tm todo inf callers s = some m') :
    Goes E b0 ρ σ cs0 m' (lone (b.atR a is) cs w) w := by
  cases todo with
  | nil =>
    obtain ⟨hi, _⟩ := hf.tt.noD rfl
    cases hi
    exact leave_code (jump := none) hf rfl hcs h hx rfl
  | cons it k =>
    have htt : TT E pd (some s) ρ σ inf.nt tm (it :: k) is a.tmps := hf.tt
    cases htt with
    | plain hp hi tr =>
      subst hp
      obtain ⟨i, r, rfl, hi, hk⟩ := hi
      cases it with
      | code c => cases hi; exact cCode_ok ok mo hv hf hk tr hcs h hx
      | inBlock id => cases hi; cases hx; exact go1 hf (Ext.refl _) (.one stepR_inBlock) rfl (Kept.refl _ _) hk tr hcs h
      | inLoop c => cases hi; cases hx; exact go1 hf (Ext.refl _) (.one stepR_inLoop) rfl (Kept.refl _ _) ⟨_, _, rfl, rfl, _, _, rfl, rfl, hk⟩ tr hcs h
      | reg ops l => obtain ⟨ns, rfl, hm⟩ := hi; exact cReg_ok ok mo hv hf hm hk tr hcs h hx
      | dreg ops l => exact hi.elim
      | inRangeFunc l => cases hx
      | endRangeFunc l => obtain ⟨L, hL, rfl⟩ := hi; exact cEndRange_ok hf hL hk tr hcs h hx
      | beginRound => cases hi; exact cBegin_ok hf hk tr hcs h hx
    | top hs hk d => cases hs; exact cDReg_ok ok mo hv hf hk d hcs h hx
    | wait hs _ _ => cases hs

theorem astep_ok (ok : EnvS E σ) (mo : MemoOK E σ) (hv : Hold E.V b0 w) {m : AM} {f : Frame} (hm : MR1 E b0 pd q ρ σ cs0 m f cs w) (hx : astep E m = some m') : Goes E b0 ρ σ cs0 m' (lone f cs w) w := by
  obtain ⟨⟨tm, todo, ⟨fn, nt, defers, mode, kd, ro⟩⟩, callers, s⟩ := m
  obtain ⟨hf, hcs, h⟩ := hm
  cases mode with
  | run =>
    have hmd : f.mode = .run := hf.mode
    have e := Frame.as_atR hmd
    rw [e] at hf ⊢
    exact runA_ok ok mo hv hf hcs h hx
  | returning => exact unwindA_ok ok.ok hf (by rw [show f.mode = .returning from hf.mode]; exact fun e => by cases e) hcs h hx
  | panicking c => exact unwindA_ok ok.ok hf (by obtain ⟨ps, e, _⟩ := hf.mode; rw [e]; exact fun e => by cases e) hcs h hx

theorem run_ok (ok : EnvS E σ) (mo : MemoOK E σ) : ∀ (n : Nat) (m m' : AM) (pd : List (Nat × Blk)) (q : List (List (Nat × Blk))) (ρ : Rho) (f : Frame) (cs : List Frame) (w : World), Hold E.V b0 w → MR1 E b0 pd q ρ σ cs0 m f cs w → run E n m = some m' → Goes E b0 ρ σ cs0 m' (lone f cs w) w ∧ doneA m' = true
  | 0, _, _, _, _, _, _, _, _, _, _, hx => by cases hx
  | n + 1, m, m', pd, q, ρ, f, cs, w, hv, hm, hx => by
    unfold run at hx
    split at hx
    · rename_i hd
      cases hx
      exact ⟨⟨ρ, f, cs, w, pd, q, Ext.refl _, .refl _ _, Kept.refl _ _, hm⟩, hd⟩
    · split at hx
      · rename_i m1 h1
        obtain ⟨ρ1, f1, cs1, w1, pd1, q1, hρ, hs, hB, hm1⟩ := astep_ok ok mo hv hm h1
        obtain ⟨h2, h3⟩ := run_ok ok mo n m1 m' pd1 q1 ρ1 f1 cs1 w1 (hv.kept hB) hm1 hx
        exact ⟨Goes.head hρ hs hB h2, h3⟩
      · cases hx
end

/-- May the lowest frame return, and is it this function's? -/
def endA (f : FuncId) (fr : AFr) : Bool := Nat.beq fr.inf.fn f && (match fr.inf.kind with | .normal => true | _ => false) && noD fr.todo

def doneB (f : FuncId) (m : AM) : Bool := doneA m && endA f m.fr

/-- The same run, quicker: a frame's parts are handed on as they are. -/
noncomputable def runK (E : Env) (n : Nat) : T AV → List AItem → FrInf → List AFr → St → Option AM :=
  Nat.rec (motive := fun _ => T AV → List AItem → FrInf → List AFr → St → Option AM) (fun _ _ _ _ _ => none)
    (fun _ ih tm todo inf callers s =>
      AMode.casesOn (motive := fun _ => Option AM) inf.mode
        (List.casesOn (motive := fun _ => Option AM) todo
          (Option.rec (motive := fun _ => Option AM) none (fun m => AM.rec (motive := fun _ => Option AM) (fun fr cs st => AFr.rec (motive := fun _ => Option AM) (fun tm td inf => ih tm td inf cs st) fr) m) (runA E tm todo inf callers s))
          (fun it k => AItem.casesOn (motive := fun _ => Option AM) it
            (fun c => Code.casesOn (motive := fun _ => Option AM) c
              (ih tm k inf callers s)
              (fun _ ops draw => Bool.rec (motive := fun _ => Option AM)
                (RR.rec (motive := fun _ => Option AM) (fun tm' s' => ih tm' k inf callers s')
                  (fun it tm' s' r => Option.rec (motive := fun _ => Option AM) none (fun m => AM.rec (motive := fun _ => Option AM) (fun fr cs st => AFr.rec (motive := fun _ => Option AM) (fun tm td inf => ih tm td inf cs st) fr) m) (applyA E ⟨tm', it :: k, inf⟩ callers r s'))
                  (fun _ => none) (regT ops.toList E ops inf.nt tm s))
                (Option.rec (motive := fun _ => Option AM) none (fun m => AM.rec (motive := fun _ => Option AM) (fun fr cs st => AFr.rec (motive := fun _ => Option AM) (fun tm td inf => ih tm td inf cs st) fr) m) (cDraw E tm k inf callers s ops)) draw)
              (fun a b => ih tm (.code a :: .code b :: k) inf callers s)
              (fun c t e => Option.rec (motive := fun _ => Option AM) none (fun m => AM.rec (motive := fun _ => Option AM) (fun fr cs st => AFr.rec (motive := fun _ => Option AM) (fun tm td inf => ih tm td inf cs st) fr) m) (cCond tm k inf callers s c t e))
              (fun id b => ih tm (.code b :: .inBlock id :: k) inf callers s)
              (fun b => ih tm (.code b :: .inLoop b :: k) inf callers s)
              (fun _ _ _ _ => Option.rec (motive := fun _ => Option AM) none (fun m => AM.rec (motive := fun _ => Option AM) (fun fr cs st => AFr.rec (motive := fun _ => Option AM) (fun tm td inf => ih tm td inf cs st) fr) m) (cCodeT c E tm k inf callers s))
              (fun _ => Option.rec (motive := fun _ => Option AM) none (fun m => AM.rec (motive := fun _ => Option AM) (fun fr cs st => AFr.rec (motive := fun _ => Option AM) (fun tm td inf => ih tm td inf cs st) fr) m) (cCodeT c E tm k inf callers s))
              (fun _ => Option.rec (motive := fun _ => Option AM) none (fun m => AM.rec (motive := fun _ => Option AM) (fun fr cs st => AFr.rec (motive := fun _ => Option AM) (fun tm td inf => ih tm td inf cs st) fr) m) (cCodeT c E tm k inf callers s))
              (fun _ => Option.rec (motive := fun _ => Option AM) none (fun m => AM.rec (motive := fun _ => Option AM) (fun fr cs st => AFr.rec (motive := fun _ => Option AM) (fun tm td inf => ih tm td inf cs st) fr) m) (cCodeT c E tm k inf callers s))
              (fun _ => Option.rec (motive := fun _ => Option AM) none (fun m => AM.rec (motive := fun _ => Option AM) (fun fr cs st => AFr.rec (motive := fun _ => Option AM) (fun tm td inf => ih tm td inf cs st) fr) m) (cCodeT c E tm k inf callers s))
              (Option.rec (motive := fun _ => Option AM) none (fun m => AM.rec (motive := fun _ => Option AM) (fun fr cs st => AFr.rec (motive := fun _ => Option AM) (fun tm td inf => ih tm td inf cs st) fr) m) (cCodeT c E tm k inf callers s))
              (fun _ => Option.rec (motive := fun _ => Option AM) none (fun m => AM.rec (motive := fun _ => Option AM) (fun fr cs st => AFr.rec (motive := fun _ => Option AM) (fun tm td inf => ih tm td inf cs st) fr) m) (cCodeT c E tm k inf callers s)))
            (fun _ => ih tm k inf callers s)
            (fun b => ih tm (.code b :: .inLoop b :: k) inf callers s)
            (fun _ _ => Option.rec (motive := fun _ => Option AM) none (fun m => AM.rec (motive := fun _ => Option AM) (fun fr cs st => AFr.rec (motive := fun _ => Option AM) (fun tm td inf => ih tm td inf cs st) fr) m) (runT it E tm k inf callers s))
            (fun _ _ => Option.rec (motive := fun _ => Option AM) none (fun m => AM.rec (motive := fun _ => Option AM) (fun fr cs st => AFr.rec (motive := fun _ => Option AM) (fun tm td inf => ih tm td inf cs st) fr) m) (runT it E tm k inf callers s))
            (fun _ => Option.rec (motive := fun _ => Option AM) none (fun m => AM.rec (motive := fun _ => Option AM) (fun fr cs st => AFr.rec (motive := fun _ => Option AM) (fun tm td inf => ih tm td inf cs st) fr) m) (runT it E tm k inf callers s))
            (fun _ => Option.rec (motive := fun _ => Option AM) none (fun m => AM.rec (motive := fun _ => Option AM) (fun fr cs st => AFr.rec (motive := fun _ => Option AM) (fun tm td inf => ih tm td inf cs st) fr) m) (runT it E tm k inf callers s))
            (Option.rec (motive := fun _ => Option AM) none (fun m => AM.rec (motive := fun _ => Option AM) (fun fr cs st => AFr.rec (motive := fun _ => Option AM) (fun tm td inf => ih tm td inf cs st) fr) m) (runT it E tm k inf callers s))))
        (Bool.rec (motive := fun _ => Option AM) (Option.rec (motive := fun _ => Option AM) none (fun m => AM.rec (motive := fun _ => Option AM) (fun fr cs st => AFr.rec (motive := fun _ => Option AM) (fun tm td inf => ih tm td inf cs st) fr) m) (astep E ⟨⟨tm, todo, inf⟩, callers, s⟩)) (some ⟨⟨tm, todo, inf⟩, callers, s⟩) (doneA ⟨⟨tm, todo, inf⟩, callers, s⟩))
        (fun _ => Bool.rec (motive := fun _ => Option AM) (Option.rec (motive := fun _ => Option AM) none (fun m => AM.rec (motive := fun _ => Option AM) (fun fr cs st => AFr.rec (motive := fun _ => Option AM) (fun tm td inf => ih tm td inf cs st) fr) m) (astep E ⟨⟨tm, todo, inf⟩, callers, s⟩)) (some ⟨⟨tm, todo, inf⟩, callers, s⟩) (doneA ⟨⟨tm, todo, inf⟩, callers, s⟩))) n

theorem run_succ (E : Env) (n : Nat) (m : AM) : run E (n + 1) m = Bool.rec (motive := fun _ => Option AM) (Option.rec (motive := fun _ => Option AM) none (fun m' => run E n m') (astep E m)) (some m) (doneA m) := by
  show (match doneA m with | true => some m | false => match astep E m with | some m' => run E n m' | none => none) = _
  cases doneA m with
  | true => rfl
  | false => cases astep E m <;> rfl
theorem runK_eq (E : Env) : ∀ (n : Nat) (tm : T AV) (todo : List AItem) (inf : FrInf) (callers : List AFr) (s : St), runK E n tm todo inf callers s = run E n ⟨⟨tm, todo, inf⟩, callers, s⟩
  | 0, _, _, _, _, _ => rfl
  | n + 1, tm, todo, ⟨fn, nt, ds, md, kd, ro⟩, callers, s => by
    have ih := runK_eq E n
    have hk : ∀ o : Option AM, Option.rec (motive := fun _ => Option AM) none (fun m => AM.rec (motive := fun _ => Option AM) (fun fr cs st => AFr.rec (motive := fun _ => Option AM) (fun tm td inf => runK E n tm td inf cs st) fr) m) o = Option.rec (motive := fun _ => Option AM) none (fun m' => run E n m') o := by
      intro o
      cases o with
      | none => rfl
      | some m => obtain ⟨⟨tm, td, inf⟩, cs, st⟩ := m; exact ih tm td inf cs st
    rw [run_succ]
    cases md with
    | returning =>
      exact congrArg (fun o => Bool.rec (motive := fun _ => Option AM) o (some ⟨⟨tm, todo, ⟨fn, nt, ds, .returning, kd, ro⟩⟩, callers, s⟩) (doneA ⟨⟨tm, todo, ⟨fn, nt, ds, .returning, kd, ro⟩⟩, callers, s⟩)) (hk (astep E ⟨⟨tm, todo, ⟨fn, nt, ds, .returning, kd, ro⟩⟩, callers, s⟩))
    | panicking c =>
      exact congrArg (fun o => Bool.rec (motive := fun _ => Option AM) o (some ⟨⟨tm, todo, ⟨fn, nt, ds, .panicking c, kd, ro⟩⟩, callers, s⟩) (doneA ⟨⟨tm, todo, ⟨fn, nt, ds, .panicking c, kd, ro⟩⟩, callers, s⟩)) (hk (astep E ⟨⟨tm, todo, ⟨fn, nt, ds, .panicking c, kd, ro⟩⟩, callers, s⟩))
    | run =>
      have hd : doneA ⟨⟨tm, todo, ⟨fn, nt, ds, .run, kd, ro⟩⟩, callers, s⟩ = false := by unfold doneA; cases callers <;> rfl
      rw [hd]
      show _ = Option.rec (motive := fun _ => Option AM) none (fun m' => run E n m') (runA E tm todo ⟨fn, nt, ds, .run, kd, ro⟩ callers s)
      cases todo with
      | nil => exact hk _
      | cons it k =>
        cases it with
        | code c =>
          cases c with
          | skip => exact ih _ _ _ _ _
          | region id ops draw =>
            cases draw with
            | true => exact hk _
            | false =>
              show RR.rec (motive := fun _ => Option AM) _ _ _ (regT ops.toList E ops nt tm s) = Option.rec (motive := fun _ => Option AM) none (fun m' => run E n m') (cReg E tm k ⟨fn, nt, ds, .run, kd, ro⟩ callers s ops ops.toList)
              unfold cReg
              show RR.rec (motive := fun _ => Option AM) _ _ _ (regT ops.toList E ops nt tm s) = Option.rec (motive := fun _ => Option AM) none (fun m' => run E n m') (match regT ops.toList E ops nt tm s with | .done tm' s' => _ | .stop it tm' s' r => _ | .stuck _ => _)
              cases regT ops.toList E ops nt tm s with
              | done tm' s' => exact ih _ _ _ _ _
              | stop it tm' s' r => exact hk _
              | stuck o => rfl
          | seq a b => exact ih _ _ _ _ _
          | block id b => exact ih _ _ _ _ _
          | loop b => exact ih _ _ _ _ _
          | _ => first | exact hk _ | rfl | exact ih _ _ _ _ _
        | inBlock id => exact ih _ _ _ _ _
        | inLoop b => exact ih _ _ _ _ _
        | _ => first | exact hk _ | rfl

noncomputable def callN (E : Env) (s : St) (f : FuncId) (args : List AV) (n : Nat) : Option (AV × St) :=
  match enterA E f args .normal with
  | some fr => match runK E n fr.tmps fr.todo fr.inf [] s with
    | some m => match endA f m.fr with
      | true => match retVal E m.st m.fr with
        | some v => some (v, m.st)
        | none => none
      | false => none
    | none => none
  | none => none

/-- A frame that the engine has brought to its end. -/
theorem done_ok {E : Env} {b0 : Nat → Prop} {pd : List (Nat × Blk)} {q : List (List (Nat × Blk))} {ρ : Rho} {σ : Nat → Value} {cs0 : List Frame} (ok : EnvOK E) {m : AM} {f : FuncId} {fr : Frame} {cs : List Frame} {w : World} (hm : MR1 E b0 pd q ρ σ cs0 m fr cs w) (hd : doneA m = true) (he : endA f m.fr = true) {v : AV} (hv : retVal E m.st m.fr = some v) :
    cs = cs0 ∧ q = [] ∧ pd = [] ∧ fr.fn = f ∧ ∃ u, VR ρ σ v u ∧ fr.leaving E.P w (.returned u) := by
  obtain ⟨⟨tm, todo, ⟨fn, nt, defers, mode, kd, ro⟩⟩, callers, s⟩ := m
  obtain ⟨hf, hcs, h⟩ := hm
  unfold endA at he
  simp only [Bool.and_eq_true] at he
  obtain ⟨⟨h1, h2⟩, h3⟩ := he
  have h1 : fn = f := Nat.eq_of_beq_eq_true h1
  unfold doneA at hd
  cases callers with
  | cons _ _ => cases hd
  | nil =>
    cases mode with
    | run => cases hd
    | panicking _ => cases hd
    | returning =>
      cases defers with
      | cons _ _ => cases hd
      | nil =>
        have hk : kd = .normal := by cases kd <;> first | rfl | cases h2
        obtain ⟨hi, tr⟩ := hf.tt.noD h3
        obtain ⟨fnr, u, e1, e2, e3⟩ := retVal_ok ok h tr hv
        exact ⟨hcs.1, hcs.2, hf.tt.noP h3, hf.fn.trans h1, u, e3, hf.mode, hf.defers, hf.kind.trans hk, fnr, by rw [hf.fn]; exact e1, e2⟩

theorem callN_ok {E : Env} {b0 : Nat → Prop} {ρ : Rho} {σ : Nat → Value} {s s' : St} {w : World} (ok : EnvS E σ) (mo : MemoOK E σ) (hw : Hold E.V b0 w) (h : R ⟨b0, [[]]⟩ ρ σ s w) {f : FuncId} {args : List AV} {va : Array Value} (ha : VRs ρ σ args va.toList) {n : Nat} {v : AV} (hx : callN E s f args n = some (v, s')) :
    Calls E.P f va w (CallPost ⟨b0, [[]]⟩ ρ σ v s' w) := by
  intro cs
  unfold callN at hx
  split at hx
  case h_2 => cases hx
  rename_i fr hent
  split at hx
  case h_2 => cases hx
  rename_i m hrun
  rw [runK_eq] at hrun
  split at hx
  case h_2 => cases hx
  rename_i hend
  split at hx
  case h_2 => cases hx
  rename_i v' hv
  cases hx
  have hen := enterA_ok ok.ok ha hent s
  obtain ⟨⟨ρ', f', cs', w', pd', q', hρ, hs, hB, hm⟩, hd⟩ := run_ok ok mo (b0 := b0) (cs0 := cs) n ⟨fr, [], s⟩ m [] [] ρ (Frame.enter E.P f va .normal) cs w hw ⟨hen, ⟨rfl, rfl⟩, h⟩ hrun
  obtain ⟨rfl, rfl, rfl, hfn, u, hu, hl⟩ := done_ok ok.ok hm hd hend hv
  exact ⟨.returned u, w', f', ⟨u, ρ', rfl, hρ, hu, hm.r, hB⟩, hs, hfn, hl⟩
end Go.Eng

/-! The engine's environment of a program; a start; calls that are known. No condition. -/
namespace Go.Eng
open Go.RowKit

/-! ### The environment of a program -/
theorem info_at {P : Program} {t : TypeId} {i : TypeInfo} (h : P.types[t]? = some i) : P.info? t = some i := by
  have := lt_of_get h
  simp [Tables.info?, this] at h ⊢
  exact h

theorem T.get_ofOpts {α : Type} : ∀ (l : List (Option α)) (i : Nat) (t : T α) (j : Nat) (a : α), i + l.length ≤ T.most + 1 → (T.ofOpts l i t).get j = some a → t.get j = some a ∨ ∃ k, j = i + k ∧ l[k]? = some (some a)
  | [], _, _, _, _, _, h => .inl h
  | none :: l, i, t, j, a, hm, h => by
    simp only [List.length_cons] at hm
    rcases T.get_ofOpts l (i + 1) t j a (by omega) h with h' | ⟨k, rfl, h'⟩
    · exact .inl h'
    · exact .inr ⟨k + 1, by omega, h'⟩
  | some x :: l, i, t, j, a, hm, h => by
    simp only [List.length_cons] at hm
    rcases T.get_ofOpts l (i + 1) (t.put i x) j a (by omega) h with h' | ⟨k, rfl, h'⟩
    · rw [T.get_put t i x (by omega)] at h'
      by_cases e : i = j
      · subst e; simp at h'; subst h'; exact .inr ⟨0, rfl, rfl⟩
      · rw [if_neg e] at h'; exact .inl h'
    · exact .inr ⟨k + 1, by omega, h'⟩

theorem T.get_ofList {α : Type} : ∀ (l : List α) (i : Nat) (t : T α) (j : Nat) (a : α), i + l.length ≤ T.most + 1 → (T.ofList l i t).get j = some a → t.get j = some a ∨ ∃ k, j = i + k ∧ l[k]? = some a
  | [], _, _, _, _, _, h => .inl h
  | x :: l, i, t, j, a, hm, h => by
    simp only [List.length_cons] at hm
    rcases T.get_ofList l (i + 1) (t.put i x) j a (by omega) h with h' | ⟨k, rfl, h'⟩
    · rw [T.get_put t i x (by omega)] at h'
      by_cases e : i = j
      · subst e; simp at h'; subst h'; exact .inr ⟨0, rfl, rfl⟩
      · rw [if_neg e] at h'; exact .inl h'
    · exact .inr ⟨k + 1, by omega, h'⟩

theorem undOf_eq {P : Program} {t : TypeId} {i : TypeInfo} {d : TypeDesc} (h : P.types[t]? = some i) (hd : undOf P i = some d) : P.underlying t = some d := by
  unfold Program.underlying
  rw [info_at h]
  unfold undOf at hd
  split at hd
  · rename_i u hu
    cases hx : P.types[u]? with
    | none => rw [hx] at hd; cases hd
    | some iu =>
      rw [hx] at hd
      obtain ⟨desc, _⟩ := i
      simp only at hu
      subst hu
      simp [info_at hx] at hd ⊢
      exact hd
  · rename_i hno
    obtain ⟨desc, _⟩ := i
    cases hd
    simp only
    split
    · rename_i heq
      cases heq
      exact absurd rfl (hno _ _)
    · rename_i heq
      cases heq; rfl
    · rename_i heq; cases heq

theorem EnvOK.of {P : Program} (ht : P.types.size ≤ T.most) (hf : P.funcs.size ≤ T.most) (hm : P.follows .mixedOrders = true) : EnvOK (Env.of P) := by
  refine ⟨fun t ti h => ?_, fun f i h => ?_, hm⟩
  · rcases T.get_ofOpts _ 0 .leaf t ti (by simp; omega) h with h | ⟨k, e, h⟩
    · rw [T.get_leaf] at h; cases h
    · rw [Nat.zero_add] at e
      subst e
      simp only [List.getElem?_map, Array.getElem?_toList] at h
      cases hx : P.types[t]? with
      | none => rw [hx] at h; cases h
      | some i =>
        rw [hx] at h
        simp only [Option.map_some, Option.some.injEq] at h
        unfold mkTy at h
        split at h
        · cases h
        · rename_i d hd
          cases h
          exact ⟨i, info_at hx, rfl, rfl, rfl, rfl, undOf_eq hx hd, rfl⟩
  · rcases T.get_ofList _ 0 .leaf f i (by simp; omega) h with h | ⟨k, e, h⟩
    · rw [T.get_leaf] at h; cases h
    · rw [Nat.zero_add] at e
      subst e
      simp only [List.getElem?_map, Array.getElem?_toList] at h
      cases hx : P.funcs[f]? with
      | none => rw [hx] at h; cases h
      | some g =>
        rw [hx] at h
        simp only [Option.map_some, Option.some.injEq] at h
        subst h
        exact ⟨hx, rfl⟩

theorem EnvOK.with {E : Env} (ok : EnvOK E) (m : FuncId → List AV → St → Option (AV × St)) : EnvOK { E with memo := m } := ⟨ok.ty, ok.fns, ok.mixed⟩
theorem MemoOK.none {P : Program} (σ : Nat → Value) : MemoOK (Env.of P) σ := fun _ _ _ _ _ h => by cases h

/-! ### The variables -/
/-- A cell without an address. -/
def plainA : AV → Bool
  | .bool _ | .int _ _ | .str _ | .nilptr | .nilslice | .nilmap | .nilFunc | .nilIface | .unk | .sym _ => true
  | _ => false
theorem plainA_any {ρ ρ' : Rho} {σ : Nat → Value} {a : AV} (h : plainA a = true) {v : Value} (hv : VR ρ σ a v) : VR ρ' σ a v := by
  cases a <;> first | exact hv | cases h
theorem plains_any {ρ ρ' : Rho} {σ : Nat → Value} : ∀ {l : List AV} {vs : List Value}, (∀ a ∈ l, plainA a = true) → VRs ρ σ l vs → VRs ρ' σ l vs
  | [], _, _, h => h
  | a :: l, _, hp, ⟨v, r, e, h, hl⟩ => ⟨v, r, e, plainA_any (hp a (by simp)) h, plains_any (fun b hb => hp b (by simp [hb])) hl⟩

/-- A cell that comes to no block but the variables' and what lies behind them. -/
def lowA : AV → Bool
  | .ptr i _ => Nat.blt i gN
  | .slice i _ _ _ _ => Nat.blt i gN
  | a => plainA a
theorem lowA_any {ρ ρ' : Rho} {σ : Nat → Value} (hρ : ∀ g L, g < gN → ρ g = some L → ρ' g = some L) : ∀ {a : AV}, lowA a = true → ∀ {v : Value}, VR ρ σ a v → VR ρ' σ a v
  | .ptr _ _, h, _, ⟨L, hL, e⟩ => ⟨L, hρ _ _ (Nat.le_of_ble_eq_true h) hL, e⟩
  | .slice _ _ _ _ _, h, _, ⟨L, b, c, hL, r⟩ => ⟨L, b, c, hρ _ _ (Nat.le_of_ble_eq_true h) hL, r⟩
  | .bool _, _, _, e => e
  | .int _ _, _, _, e => e
  | .str _, _, _, e => e
  | .nilptr, _, _, e => e
  | .nilslice, _, _, e => e
  | .nilmap, _, _, e => e
  | .nilFunc, _, _, e => e
  | .nilIface, _, _, e => e
  | .unk, _, _, e => e
  | .sym _, _, _, e => e
  | .map _, h, _, _ => Bool.noConfusion h
  | .func _ _ _, h, _, _ => Bool.noConfusion h
  | .yield _, h, _, _ => Bool.noConfusion h
  | .iface _ _, h, _, _ => Bool.noConfusion h
  | .agg _, h, _, _ => Bool.noConfusion h
  | .tuple _, h, _, _ => Bool.noConfusion h
theorem lows_any {ρ ρ' : Rho} {σ : Nat → Value} (hρ : ∀ g L, g < gN → ρ g = some L → ρ' g = some L) : ∀ {l : List AV} {vs : List Value}, (∀ a ∈ l, lowA a = true) → VRs ρ σ l vs → VRs ρ' σ l vs
  | [], _, _, h => h
  | a :: l, _, hp, ⟨v, r, e, h, hl⟩ => ⟨v, r, e, lowA_any hρ (hp a (by simp)) h, lows_any hρ (fun b hb => hp b (by simp [hb])) hl⟩
theorem plain_low {a : AV} (h : plainA a = true) : lowA a = true := by cases a <;> first | exact h | cases h

/-- A variable: its block, its cells, their type; or what lies behind one. -/
structure Gv where
  g : Nat
  cs : List AV
  el : TypeId

noncomputable def stOf : List Gv → St
  | [] => ⟨gN, .leaf⟩
  | x :: l => (stOf l).put x.g (.cells x.cs x.el false)

noncomputable def hasG : List Gv → St → Bool
  | [], _ => true
  | x :: l, s => match s.get x.g with
    | some (.cells cs el false) => Nat.beq x.el el && avEqs x.cs cs && hasG l s
    | _ => false

structure GlOK (l : List Gv) : Prop where
  small : ∀ x ∈ l, x.g < gN
  low : ∀ x ∈ l, ∀ a ∈ x.cs, lowA a = true

theorem stOf_next : ∀ l : List Gv, (stOf l).next = gN
  | [] => rfl
  | x :: l => by unfold stOf; rw [St.next_put, stOf_next l]

theorem gN_most : gN ≤ T.most := by unfold gN T.most; omega

theorem stOf_get : ∀ (l : List Gv), (∀ x ∈ l, x.g < gN) → ∀ (i : Nat) (b : Blk), (stOf l).get i = some b → ∃ x ∈ l, i = x.g ∧ b = .cells x.cs x.el false
  | [], _, i, b, h => by
    have h : (T.leaf : T Blk).get i = some b := h
    rw [T.get_leaf] at h; cases h
  | x :: l, hs, i, b, h => by
    unfold stOf at h
    have hx := hs x (by simp)
    rw [St.get_put _ _ _ (by have := gN_most; omega)] at h
    by_cases e : x.g = i
    · rw [if_pos e] at h
      cases h
      exact ⟨x, by simp, e.symm, rfl⟩
    · rw [if_neg e] at h
      obtain ⟨y, hy, h1, h2⟩ := stOf_get l (fun y hy => hs y (by simp [hy])) i b h
      exact ⟨y, by simp [hy], h1, h2⟩

theorem hasG_spec : ∀ {l : List Gv} {s : St}, hasG l s = true → ∀ x ∈ l, s.get x.g = some (.cells x.cs x.el false)
  | [], _, _, x, hx => by cases hx
  | y :: l, s, h, x, hx => by
    unfold hasG at h
    split at h
    · rename_i cs el hg
      simp only [Bool.and_eq_true] at h
      obtain ⟨⟨h1, h2⟩, h3⟩ := h
      rcases List.mem_cons.1 hx with rfl | hx
      · rw [hg, Nat.eq_of_beq_eq_true h1, avEqs_eq _ _ h2]
      · exact hasG_spec h3 x hx
    · cases h

section
variable {B : Base} {ρ : Rho} {σ : Nat → Value} {s : St} {w w' : World}

theorem Kept.at {n : Nat} (h : Kept (Base.at n).b w w') : Below n w w' := ⟨h.os, h.tape, h.output, h.size, fun k hk => h.block k hk⟩

/-- What lies there stays as it is while another run goes on behind it. -/
theorem R.frame (h : R B ρ σ s w) (k : Below w.heap.size w w') : R B ρ σ s w' :=
  ⟨h.fresh, h.base, h.most, fun i b hi => by
    rcases h.live i b hi with hv | ⟨L, ob, hL, hob, hb⟩
    · exact .inl hv
    · exact .inr ⟨L, ob, hL, by rw [k.block _ (lt_of_get hob)]; exact hob, hb⟩, h.virt, h.inj, h.own, h.glob, h.vars, fun j hj => Nat.lt_of_lt_of_le (h.size j hj) k.size, h.nd⟩

/-- The variables alone. -/
theorem R.start (h : R B ρ σ s w) {l : List Gv} (hl : GlOK l) (hs : hasG l s = true) : R (.at w.heap.size) (fun i => if i < gN then ρ i else none) σ (stOf l) w := by
  have up : ∀ i b, (stOf l).get i = some b → s.get i = some b ∧ i < gN ∧ ∃ x ∈ l, b = .cells x.cs x.el false := fun i b hi => by
    obtain ⟨x, hx, rfl, rfl⟩ := stOf_get l hl.small i b hi
    exact ⟨hasG_spec hs x hx, hl.small x hx, x, hx, rfl⟩
  refine ⟨fun i hi => ?_, by rw [stOf_next]; exact Nat.le_refl _, by rw [stOf_next]; have := gN_most; omega, fun i b hi => ?_, fun i b hv => (by rw [Base.at_get] at hv; cases hv), fun i j b b' L L' hg hi _ _ _ _ => ?_, fun i b L hi _ hg => ?_, fun i b hi _ => ?_, fun g hg => ?_, fun _ hk => hk, List.nodup_nil⟩
  · rw [stOf_next] at hi; rw [if_neg (by omega)]
  · obtain ⟨h1, h2, x, hx, rfl⟩ := up i b hi
    rcases h.live i _ h1 with ⟨hv, _⟩ | ⟨L, ob, hL, hob, c, t, fr, e, ht, z, hv, r⟩
    · obtain ⟨M, hM, _⟩ := h.vars i h2
      rw [hM] at hv; cases hv
    exact .inr ⟨L, ob, by rw [if_pos h2]; exact hL, hob, c, t, fr, e, ht, z, lows_any (fun g M hg hM => by simp only [if_pos hg]; exact hM) (hl.low x hx) hv, r⟩
  · obtain ⟨_, h2, _⟩ := up i b hi
    omega
  · obtain ⟨_, h2, _⟩ := up i b hi
    omega
  · obtain ⟨_, _, x, _, rfl⟩ := up i b hi
    exact ⟨_, _, rfl⟩
  · simp only [if_pos hg]; exact h.vars g hg

/-- What a block must hold to be a variable's, or what lies behind one. -/
def Holds (ρ : Rho) (σ : Nat → Value) (w : World) (x : Gv) (L : Loc) : Prop :=
  ∃ c t fr, w.heap[L.blk]? = some (.cells c t fr) ∧ (x.el ≠ unkT → t = elOf x.el) ∧ (x.el < tailN → L.sh = 0) ∧ VRs ρ σ x.cs ((c.toList.drop L.sh).take x.cs.length) ∧ x.cs.length ≤ L.ext ∧ L.sh + L.ext ≤ c.size

def rho0 (loc : Nat → Loc) : Rho := fun i => if i < gN then some (loc i) else none

/-- The variables and what lies behind them, in a world where they hold what is told. -/
theorem R.init' {l : List Gv} (hl : GlOK l) (loc : Nat → Loc) (hloc : ∀ g, g < vN → (loc g).blk = g ∧ (loc g).sh = 0) (hw : ∀ x ∈ l, Holds (rho0 loc) σ w x (loc x.g)) : R (.at w.heap.size) (rho0 loc) σ (stOf l) w := by
  refine ⟨fun i hi => ?_, by rw [stOf_next]; exact Nat.le_refl _, by rw [stOf_next]; have := gN_most; omega,
    fun i b hi => ?_, fun i b hv => (by rw [Base.at_get] at hv; cases hv), fun i j b b' L L' hg hi _ _ _ _ => ?_, fun i b L hi _ hg => ?_, fun i b hi _ => ?_, fun g hg => ?_, fun _ hk => hk, List.nodup_nil⟩
  · rw [stOf_next] at hi; unfold rho0; rw [if_neg (by omega)]
  · obtain ⟨x, hx, rfl, rfl⟩ := stOf_get l hl.small i b hi
    obtain ⟨c, t, fr, h2, ht, h3, hv, r1, r2⟩ := hw x hx
    refine .inr ⟨loc x.g, .cells c t fr, ?_, h2, c, t, fr, rfl, ht, h3, hv, r1, r2, fun e => by cases e⟩
    unfold rho0
    rw [if_pos (hl.small x hx)]
  · obtain ⟨x, hx, rfl, _⟩ := stOf_get l hl.small i b hi
    have := hl.small x hx
    omega
  · obtain ⟨x, hx, rfl, _⟩ := stOf_get l hl.small i b hi
    have := hl.small x hx
    omega
  · obtain ⟨x, _, _, rfl⟩ := stOf_get l hl.small i b hi
    exact ⟨_, _, rfl⟩
  · exact ⟨loc g, by unfold rho0; rw [if_pos hg], hloc g⟩

/-- The variables alone. -/
theorem R.init {l : List Gv} (hl : GlOK l) (hp : ∀ x ∈ l, ∀ a ∈ x.cs, plainA a = true) (hw : ∀ x ∈ l, x.el < tailN ∧ ∃ c fr, w.heap[x.g]? = some (.cells c x.el fr) ∧ VRs (fun _ => none) σ x.cs c.toList) :
    ∃ ρ, R (.at w.heap.size) ρ σ (stOf l) w := by
  refine ⟨_, R.init' hl (fun i => ⟨i, 0, match w.heap[i]? with | some (.cells c _ _) => c.size | _ => 0⟩) (fun _ _ => ⟨rfl, rfl⟩) (fun x hx => ?_)⟩
  obtain ⟨h1, c, fr, h2, h3⟩ := hw x hx
  have hlen := h3.length
  have hsz : x.cs.length = c.size := by rw [← hlen]; simp
  refine ⟨c, x.el, fr, h2, fun _ => by unfold elOf; rw [if_pos h1], fun _ => rfl, ?_, ?_, ?_⟩
  · have : (c.toList.drop 0).take x.cs.length = c.toList := by rw [List.drop_zero, ← hlen, List.take_length]
    show VRs _ σ x.cs ((c.toList.drop 0).take x.cs.length)
    rw [this]
    exact plains_any (hp x hx) h3
  · show x.cs.length ≤ (match w.heap[x.g]? with | some (.cells c _ _) => c.size | _ => 0)
    rw [h2]; exact Nat.le_of_eq hsz
  · show 0 + (match w.heap[x.g]? with | some (.cells c _ _) => c.size | _ => 0) ≤ c.size
    rw [h2]; exact Nat.le_of_eq (Nat.zero_add _)
end

/-! ### Known calls -/
/-- In every world that holds the variables a call of this function, without arguments, hands this back, and all that was there stays. -/
def Known (P : Program) (l : List Gv) (f : FuncId) (v : AV) : Prop :=
  ∀ (w : World) (σ : Nat → Value), (∃ ρ, R (.at w.heap.size) ρ σ (stOf l) w) → Calls P f #[] w (fun e w' => ∃ u, e = .returned u ∧ (∀ ρ, VR ρ σ v u) ∧ Below w.heap.size w w')

noncomputable def findM (f : FuncId) : List (FuncId × AV) → Option AV
  | [] => none
  | (g, v) :: l => match Nat.beq f g with | true => some v | false => findM f l
noncomputable def memoOf (gl : List Gv) (rows : List (FuncId × AV)) (f : FuncId) (args : List AV) (s : St) : Option (AV × St) :=
  match args with
  | [] => match findM f rows with
    | some v => match hasG gl s with
      | true => some (v, s)
      | false => none
    | none => none
  | _ => none

theorem findM_mem {f : FuncId} {v : AV} : ∀ {l : List (FuncId × AV)}, findM f l = some v → (f, v) ∈ l
  | [], h => by cases h
  | (g, u) :: l, h => by
    unfold findM at h
    split at h
    · rename_i hb
      cases h
      rw [Nat.eq_of_beq_eq_true hb]; simp
    · simp [findM_mem h]

theorem MemoOK.of {E : Env} {gl : List Gv} (hl : GlOK gl) {rows : List (FuncId × AV)} (h : ∀ x ∈ rows, Known E.P gl x.1 x.2) : ∀ σ, MemoOK { E with memo := memoOf gl rows } σ := by
  intro σ f args s v s' hm B ρ w va _ hR hva
  replace hm : memoOf gl rows f args s = some (v, s') := hm
  unfold memoOf at hm
  split at hm
  case h_2 => cases hm
  split at hm
  case h_2 => cases hm
  rename_i u hf
  split at hm
  case h_2 => cases hm
  rename_i hs
  cases hm
  have e : va = #[] := Array.ext' (by have h : va.toList = [] := hva; simpa using h)
  subst e
  intro cs
  obtain ⟨e, w', fr, ⟨u, rfl, hu, hB⟩, h2⟩ := h (f, v) (findM_mem hf) w σ ⟨_, hR.start hl hs⟩ cs
  exact ⟨_, w', fr, ⟨u, ρ, rfl, Ext.refl _, hu ρ, hR.frame hB, ⟨hB.os, hB.tape, hB.output, hB.size, fun k hk => hB.block k (hR.size k hk)⟩⟩, h2⟩

/-- The engine's run of a call without arguments. -/
noncomputable def runsTo (E : Env) (gl : List Gv) (f : FuncId) (n : Nat) (v : AV) : Bool :=
  match callN E (stOf gl) f [] n with
  | some (x, _) => plainA v && avEq x v
  | none => false

theorem Known.of {E : Env} (ok : ∀ σ, EnvS E σ) (mo : ∀ σ, MemoOK E σ) {gl : List Gv} {f : FuncId} {n : Nat} {v : AV} (h : runsTo E gl f n v = true) (hV : ∀ w, E.V w := by intro _; exact True.intro) : Known E.P gl f v := by
  intro w σ ⟨ρ, hR⟩
  unfold runsTo at h
  split at h
  case h_2 => cases h
  rename_i x s' hx
  simp only [Bool.and_eq_true] at h
  obtain ⟨hp, he⟩ := h
  have := avEq_eq _ _ he
  subst this
  intro cs
  obtain ⟨e, w', fr, ⟨u, ρ', rfl, hρ, hu, hR', hB⟩, h2⟩ := callN_ok (ok σ) (mo σ) (Hold.all hV _ _) hR (args := []) (va := #[]) rfl hx cs
  exact ⟨_, w', fr, ⟨u, rfl, fun ρ'' => plainA_any hp hu, hB.at⟩, h2⟩
end Go.Eng

/-! The engine's known calls that hand back memory: an image. No condition. -/
namespace Go.Eng
open Go.RowKit
noncomputable section

/-! ### Names, one for another -/
def renN (f : Nat → Nat) (i : Nat) : Nat := match Nat.blt i gN with | true => i | false => f (Nat.sub i gN)
mutual
def ren (f : Nat → Nat) : AV → AV
  | .ptr i o => .ptr (renN f i) o
  | .slice i o n c z => .slice (renN f i) o n c z
  | .map i => .map (renN f i)
  | .func g a b => .func g (rens f a) (rens f b)
  | .yield i => .yield (renN f i)
  | .iface t x => .iface t (ren f x)
  | .agg l => .agg (rens f l)
  | .tuple l => .tuple (rens f l)
  | .bool b => .bool b
  | .int k n => .int k n
  | .str s => .str s
  | .nilptr => .nilptr
  | .nilslice => .nilslice
  | .nilmap => .nilmap
  | .nilFunc => .nilFunc
  | .nilIface => .nilIface
  | .unk => .unk
  | .sym i => .sym i
def rens (f : Nat → Nat) : List AV → List AV
  | [] => []
  | a :: l => ren f a :: rens f l
end
def renM (f : Nat → Nat) : List (AV × AV × Nat) → List (AV × AV × Nat)
  | [] => []
  | (k, v, b) :: l => (ren f k, ren f v, b) :: renM f l
/-- A block of cells or a map, its names others. -/
def renB (f : Nat → Nat) : Blk → Option Blk
  | .cells cs el wr => some (.cells (rens f cs) el wr)
  | .map es k => some (.map (renM f es) k)
  | _ => none

section
variable {ρ1 ρ2 : Rho} {σ : Nat → Value} {f g : Nat → Nat}
mutual
theorem VR_ren (h : ∀ i L, ρ1 (renN f i) = some L → ρ2 (renN g i) = some L) : ∀ (a : AV) (v : Value), VR ρ1 σ (ren f a) v → VR ρ2 σ (ren g a) v
  | .ptr _ _, _, ⟨L, hL, e⟩ => ⟨L, h _ _ hL, e⟩
  | .slice _ _ _ _ _, _, ⟨L, a, c, hL, r⟩ => ⟨L, a, c, h _ _ hL, r⟩
  | .map _, _, ⟨L, hL, e⟩ => ⟨L, h _ _ hL, e⟩
  | .func _ a b, _, ⟨va, vb, e, h1, h2⟩ => ⟨va, vb, e, VRs_ren h a _ h1, VRs_ren h b _ h2⟩
  | .yield _, _, ⟨L, hL, e⟩ => ⟨L, h _ _ hL, e⟩
  | .iface _ x, _, ⟨u, e, hu⟩ => ⟨u, e, VR_ren h x u hu⟩
  | .agg l, _, ⟨vs, e, hv⟩ => ⟨vs, e, VRs_ren h l _ hv⟩
  | .tuple l, _, ⟨vs, e, hv⟩ => ⟨vs, e, VRs_ren h l _ hv⟩
  | .bool _, _, e => e
  | .int _ _, _, e => e
  | .str _, _, e => e
  | .nilptr, _, e => e
  | .nilslice, _, e => e
  | .nilmap, _, e => e
  | .nilFunc, _, e => e
  | .nilIface, _, e => e
  | .unk, _, e => e
  | .sym _, _, e => e
theorem VRs_ren (h : ∀ i L, ρ1 (renN f i) = some L → ρ2 (renN g i) = some L) : ∀ (l : List AV) (vs : List Value), VRs ρ1 σ (rens f l) vs → VRs ρ2 σ (rens g l) vs
  | [], _, e => e
  | a :: l, _, ⟨v, r, e, ha, hl⟩ => ⟨v, r, e, VR_ren h a v ha, VRs_ren h l r hl⟩
end
theorem rens_length (f : Nat → Nat) : ∀ l : List AV, (rens f l).length = l.length
  | [] => rfl
  | a :: l => by unfold rens; simp [rens_length f l]
theorem MR_ren (h : ∀ i L, ρ1 (renN f i) = some L → ρ2 (renN g i) = some L) : ∀ (l : List (AV × AV × Nat)) (es : List MapEntry), MR ρ1 σ (renM f l) es → MR ρ2 σ (renM g l) es
  | [], _, e => e
  | (k, v, _) :: l, _, ⟨e, r, he, hk, hv, hb, hl⟩ => ⟨e, r, he, VR_ren h k _ hk, VR_ren h v _ hv, hb, MR_ren h l r hl⟩
theorem BO_ren (h : ∀ i L, ρ1 (renN f i) = some L → ρ2 (renN g i) = some L) {b b1 b2 : Blk} (h1 : renB f b = some b1) (h2 : renB g b = some b2) {L : Loc} {ob : Obj} (hb : BO ρ1 σ L b1 ob) : BO ρ2 σ L b2 ob := by
  cases b with
  | cells cs el wr =>
    cases h1; cases h2
    obtain ⟨c, t, fr, e, ht, z, hv, r⟩ := hb
    rw [rens_length] at hv r
    refine ⟨c, t, fr, e, ht, z, ?_, ?_⟩
    · rw [rens_length]; exact VRs_ren h _ _ hv
    · rw [rens_length]; exact r
  | map es k =>
    cases h1; cases h2
    obtain ⟨z, m, e, hm⟩ := hb
    exact ⟨z, m, e, MR_ren h _ _ hm⟩
  | siter _ _ => cases h1
  | miter _ _ _ _ => cases h1
  | loop _ _ _ _ _ _ _ _ _ => cases h1
  | deferred _ => cases h1
end

/-! ### An image -/
/-- A value and the blocks that it comes to: number j of them has the name 'gN + j' in it. -/
structure Img where
  v : AV
  bs : List Blk

def putB (f : Nat → Nat) : List Blk → St → Option St
  | [], s => some s
  | b :: l, s => match renB f b with
    | some x => match s.new x with
      | some (_, s') => putB f l s'
      | none => none
    | none => none

/-- An image, laid where the state's names end. -/
def place (i : Img) (s : St) : Option (AV × St) :=
  match s with
  | ⟨N, h⟩ => match putB (fun j => Nat.add N j) i.bs ⟨N, h⟩ with
    | some s' => some (ren (fun j => Nat.add N j) i.v, s')
    | none => none

def mEq : List (AV × AV × Nat) → List (AV × AV × Nat) → Bool
  | [], [] => true
  | (k, v, b) :: l, (k', v', b') :: l' => avEq k k' && avEq v v' && Nat.beq b b' && mEq l l'
  | _, _ => false
def blkEq : Blk → Blk → Bool
  | .cells a t w, .cells b u x => avEqs a b && Nat.beq t u && (w == x)
  | .map a k, .map b l => mEq a b && Nat.beq k l
  | _, _ => false

theorem mEq_eq : ∀ {a b : List (AV × AV × Nat)}, mEq a b = true → a = b
  | [], [], _ => rfl
  | (k, v, b) :: l, (k', v', b') :: l', h => by
    unfold mEq at h
    simp only [Bool.and_eq_true] at h
    obtain ⟨⟨⟨h1, h2⟩, h3⟩, h4⟩ := h
    rw [avEq_eq _ _ h1, avEq_eq _ _ h2, Nat.eq_of_beq_eq_true h3, mEq_eq h4]
  | [], _ :: _, h => by cases h
  | _ :: _, [], h => by cases h
theorem blkEq_eq {a b : Blk} (h : blkEq a b = true) : a = b := by
  cases a <;> cases b <;> first | (cases h; done) | skip
  · simp only [blkEq, Bool.and_eq_true, beq_iff_eq] at h
    obtain ⟨⟨h1, h2⟩, h3⟩ := h
    rw [avEqs_eq _ _ h1, Nat.eq_of_beq_eq_true h2, h3]
  · simp only [blkEq, Bool.and_eq_true] at h
    rw [mEq_eq h.1, Nat.eq_of_beq_eq_true h.2]

/-- No block has this name. -/
def badN : Nat := T.most + 5
def nameOf (m : List Nat) (j : Nat) : Nat := match nth m j with | some x => x | none => badN

def chkL (f : Nat → Nat) (s : St) : List Nat → List Blk → Bool
  | [], [] => true
  | i :: m, b :: bs => (match s.get i with
    | some x => match renB f b with
      | some y => blkEq y x
      | none => false
    | none => false) && Nat.ble gN i && !memN i m && chkL f s m bs
  | _, _ => false

/-- The engine's run of a call without arguments comes to an image, its blocks by these names. -/
def imgRun (E : Env) (gl : List Gv) (f : FuncId) (n : Nat) (m : List Nat) (i : Img) : Bool :=
  match callN E (stOf gl) f [] n with
  | some (x, s) => avEq (ren (nameOf m) i.v) x && chkL (nameOf m) s m i.bs
  | none => false

theorem chkL_spec {f : Nat → Nat} {s : St} : ∀ {m : List Nat} {bs : List Blk}, chkL f s m bs = true →
    m.length = bs.length ∧ (∀ (j i : Nat) (b : Blk), m[j]? = some i → bs[j]? = some b → gN ≤ i ∧ ∃ y, renB f b = some y ∧ s.get i = some y) ∧ m.Nodup
  | [], [], _ => ⟨rfl, fun j i b h => by simp at h, .nil⟩
  | i :: m, b :: bs, h => by
    unfold chkL at h
    simp only [Bool.and_eq_true, Bool.not_eq_true'] at h
    obtain ⟨⟨⟨h1, h2⟩, h3⟩, h4⟩ := h
    obtain ⟨e1, e2, e3⟩ := chkL_spec h4
    refine ⟨by simp [e1], fun j i' b' hi hb => ?_, ?_⟩
    · cases j with
      | zero =>
        simp only [List.getElem?_cons_zero, Option.some.injEq] at hi hb
        subst hi; subst hb
        refine ⟨Nat.le_of_ble_eq_true h2, ?_⟩
        split at h1
        · rename_i x hx
          split at h1
          · rename_i y hy
            rw [← blkEq_eq h1] at hx
            exact ⟨y, hy, hx⟩
          · cases h1
        · cases h1
      | succ j => simp only [List.getElem?_cons_succ] at hi hb; exact e2 j i' b' hi hb
    · refine List.nodup_cons.2 ⟨fun hm => ?_, e3⟩
      have : ∀ {l : List Nat}, i ∈ l → memN i l = true := fun {l} hl => by
        induction l with
        | nil => cases hl
        | cons a l ih =>
          unfold memN
          rcases List.mem_cons.1 hl with rfl | hl
          · simp
          · simp [ih hl]
      rw [this hm] at h3; cases h3
  | [], _ :: _, h => by cases h
  | _ :: _, [], h => by cases h

theorem putB_spec {f : Nat → Nat} : ∀ {bs : List Blk} {s s' : St}, putB f bs s = some s' → 0 < s.next → s.next ≤ T.most + 1 →
    s'.next = s.next + bs.length ∧ s'.next ≤ T.most + 1 ∧ (∀ i, i < s.next → s'.get i = s.get i) ∧ ∀ j b, bs[j]? = some b → ∃ y, renB f b = some y ∧ s'.get (s.next + j) = some y
  | [], s, s', h, _, hm => by cases h; exact ⟨rfl, hm, fun _ _ => rfl, fun _ _ h => by simp at h⟩
  | b :: l, s, s', h, hp, _ => by
    unfold putB at h
    split at h
    case h_2 => cases h
    rename_i x hx
    split at h
    case h_2 => cases h
    rename_i i s1 hn
    obtain ⟨rfl, h2, h3, h4, _⟩ := St.new_eq hn
    obtain ⟨e1, e2, e3, e4⟩ := putB_spec h (by omega) (by omega)
    refine ⟨by rw [e1, h3, List.length_cons]; omega, e2, fun i hi => ?_, fun j b' hb => ?_⟩
    · rw [e3 i (by omega), h4, if_neg (by omega)]
    · cases j with
      | zero =>
        simp only [List.getElem?_cons_zero, Option.some.injEq] at hb
        subst hb
        refine ⟨x, hx, ?_⟩
        rw [Nat.add_zero, e3 _ (by omega), h4, if_pos rfl]
      | succ j =>
        simp only [List.getElem?_cons_succ] at hb
        obtain ⟨y, hy, hg⟩ := e4 j b' hb
        refine ⟨y, hy, ?_⟩
        rw [← hg, h3]; congr 1; omega

theorem putB_none {f : Nat → Nat} : ∀ {bs : List Blk} {s s' : St}, putB f bs s = some s' → 0 < s.next → s.next ≤ T.most + 1 → ∀ i, s.next + bs.length ≤ i → s'.get i = s.get i
  | [], s, s', h, _, _, i, _ => by cases h; rfl
  | b :: l, s, s', h, hp, _, i, hi => by
    unfold putB at h
    split at h
    case h_2 => cases h
    rename_i x hx
    split at h
    case h_2 => cases h
    rename_i i' s1 hn
    obtain ⟨rfl, h2, h3, h4, _⟩ := St.new_eq hn
    simp only [List.length_cons] at hi
    rw [putB_none h (by omega) (by omega) i (by omega), h4, if_neg (by omega)]

theorem lt_of_list {α : Type} {l : List α} {j : Nat} {x : α} (h : l[j]? = some x) : j < l.length := (List.getElem?_eq_some_iff.1 h).1

/-- An image that a run from the variables alone has come to, laid in another state. -/
theorem R.image {B : Base} {ρ ρ1 : Rho} {σ : Nat → Value} {s s1 s2 : St} {w w' : World} {m : List Nat} {i : Img} {v : AV} {u : Value} (h : R B ρ σ s w) (k : Below w.heap.size w w') (h1 : R (.at w.heap.size) ρ1 σ s1 w')
    (hρ : ∀ g, g < gN → ρ1 g = ρ g) (hu : VR ρ1 σ (ren (nameOf m) i.v) u) (hm : chkL (nameOf m) s1 m i.bs = true) (hp : place i s = some (v, s2)) : ∃ ρ', Ext ρ ρ' ∧ VR ρ' σ v u ∧ R B ρ' σ s2 w' := by
  obtain ⟨N, hp0⟩ := s
  unfold place at hp
  simp only at hp
  split at hp
  case h_2 => cases hp
  rename_i s2' hput
  cases hp
  have hbase : gN ≤ N := h.base
  have hN : N ≤ T.most + 1 := h.most
  have hg0 : 0 < gN := by unfold gN; omega
  obtain ⟨p1, p2, p3, p4⟩ := putB_spec hput (show 0 < N by omega) hN
  obtain ⟨c1, c2, c3⟩ := chkL_spec hm
  replace p1 : s2.next = N + i.bs.length := p1
  replace p3 : ∀ j, j < N → s2.get j = St.get ⟨N, hp0⟩ j := p3
  replace p4 : ∀ j b, i.bs[j]? = some b → ∃ y, renB (fun j => Nat.add N j) b = some y ∧ s2.get (N + j) = some y := p4
  let ρ' : Rho := fun j => if j < N then ρ j else (m[j - N]?).bind ρ1
  have low : ∀ j, j < N → ρ' j = ρ j := fun j hj => by simp [ρ', hj]
  have high : ∀ j, ρ' (N + j) = (m[j]?).bind ρ1 := fun j => by
    have : ¬ N + j < N := by omega
    show (if N + j < N then ρ (N + j) else (m[N + j - N]?).bind ρ1) = _
    rw [if_neg this, Nat.add_sub_cancel_left]
  have hx : Ext ρ ρ' := fun j L hL => by
    rcases Nat.lt_or_ge j N with hj | hj
    · rw [low j hj]; exact hL
    · have : ρ j = none := h.fresh j hj
      rw [this] at hL; cases hL
  have hren : ∀ j L, ρ1 (renN (nameOf m) j) = some L → ρ' (renN (fun j => Nat.add N j) j) = some L := fun j L hL => by
    unfold renN at hL ⊢
    split at hL
    · rename_i hb
      have hj : j < gN := by have : Nat.ble (j + 1) gN = true := hb; exact Nat.le_of_ble_eq_true this
      rw [low j (by omega), ← hρ j hj]; exact hL
    · show ρ' (N + (j - gN)) = some L
      rw [high]
      unfold nameOf at hL
      rw [nth_eq] at hL
      split at hL
      · rename_i x hx; rw [show m[j - gN]? = some x from hx]; exact hL
      · rw [h1.fresh badN (by have := h1.most; unfold badN; omega)] at hL; cases hL
  have kept := h.frame k
  have new : ∀ j b, s2.get j = some b → N ≤ j → ∃ x y, m[j - N]? = some x ∧ i.bs[j - N]? = some y ∧ renB (fun j => Nat.add N j) y = some b ∧ gN ≤ x ∧ ∃ z, renB (nameOf m) y = some z ∧ s1.get x = some z := fun j b hj hge => by
    have hlt : j - N < i.bs.length := by
      rcases Nat.lt_or_ge (j - N) i.bs.length with hc | hc
      · exact hc
      · exfalso
        have : s2.get j = none := by
          have hb := putB_none hput (show 0 < N by omega) hN j (by show N + i.bs.length ≤ j; omega)
          rw [hb]
          cases hg : St.get ⟨N, hp0⟩ j with
          | none => rfl
          | some c => have : j < N := h.lt hg; omega
        rw [this] at hj; cases hj
    obtain ⟨y, hy⟩ : ∃ y, i.bs[j - N]? = some y := ⟨_, List.getElem?_eq_getElem hlt⟩
    have hlt' : j - N < m.length := by rw [c1]; exact hlt
    obtain ⟨x, hxx⟩ : ∃ x, m[j - N]? = some x := ⟨_, List.getElem?_eq_getElem hlt'⟩
    obtain ⟨q1, q2⟩ := c2 _ _ _ hxx hy
    obtain ⟨z, hz, hg⟩ := p4 _ _ hy
    rw [show N + (j - N) = j by omega, hj] at hg
    cases hg
    exact ⟨x, y, hxx, hy, hz, q1, q2⟩
  have old : ∀ j b, s2.get j = some b → j < N → St.get ⟨N, hp0⟩ j = some b := fun j b hj hlt => by rw [p3 j hlt] at hj; exact hj
  refine ⟨ρ', hx, VR_ren hren _ _ hu, ⟨fun j hj => ?_, by rw [p1]; omega, p2, fun j b hj => ?_, fun j b hv => ?_, fun a c b b' L L' hga ha hc hne hL hL' => ?_, fun j b L hj hL hgj => ?_, fun j b hj hlt => ?_, fun g hg => ?_, kept.size, h.nd⟩⟩
  · rw [p1] at hj
    have : j = N + (j - N) := by omega
    rw [this, high, List.getElem?_eq_none (by omega)]; rfl
  · rcases Nat.lt_or_ge j N with hlt | hge
    · rcases kept.live j b (old j b hj hlt) with ⟨h2, h3⟩ | ⟨L, ob, hL, hob, hb⟩
      · exact .inl ⟨by rw [low j hlt]; exact h2, h3⟩
      · exact .inr ⟨L, ob, by rw [low j hlt]; exact hL, hob, hb.ext hx⟩
    · obtain ⟨x, y, e1, e2, e3, e4, z, e5, e6⟩ := new j b hj hge
      rcases h1.live x z e6 with ⟨_, hv⟩ | ⟨L, ob, hL, hob, hb⟩
      · rw [Base.at_get] at hv; cases hv
      refine .inr ⟨L, ob, ?_, hob, BO_ren hren e5 e3 hb⟩
      have : j = N + (j - N) := by omega
      rw [this, high, e1]; exact hL
  · obtain ⟨h2, h3, h4, h5⟩ := h.virt j b hv
    have h4 : j < N := h4
    exact ⟨by rw [p3 j h4]; exact h2, by rw [low j h4]; exact h3, by rw [p1]; omega, h5⟩
  · have loc : ∀ a b L, s2.get a = some b → ρ' a = some L → (a < N → L.blk < w.heap.size) ∧ (N ≤ a → w.heap.size ≤ L.blk) := fun a b L ha hL => by
      refine ⟨fun hlt => ?_, fun hge => ?_⟩
      · rw [low a hlt] at hL
        obtain ⟨ob, hob, _⟩ := h.here (old a b ha hlt) hL
        exact lt_of_get hob
      · obtain ⟨x, y, e1, e2, e3, e4, z, e5, e6⟩ := new a b ha hge
        rw [show a = N + (a - N) by omega, high, e1] at hL
        exact Nat.le_of_not_lt (h1.own x z L e6 hL e4)
    obtain ⟨la1, la2⟩ := loc a b L ha hL
    obtain ⟨lc1, lc2⟩ := loc c b' L' hc hL'
    rcases Nat.lt_or_ge a N with hla | hga
    · rcases Nat.lt_or_ge c N with hlc | hgc
      · rw [low a hla] at hL; rw [low c hlc] at hL'
        exact h.inj a c b b' L L' hga (old a b ha hla) (old c b' hc hlc) hne hL hL'
      · have := la1 hla; have := lc2 hgc; omega
    · rcases Nat.lt_or_ge c N with hlc | hgc
      · have := la2 hga; have := lc1 hlc; omega
      · obtain ⟨x, y, e1, e2, e3, e4, z, e5, e6⟩ := new a b ha hga
        obtain ⟨x', y', e1', e2', e3', e4', z', e5', e6'⟩ := new c b' hc hgc
        rw [show a = N + (a - N) by omega, high, e1] at hL
        rw [show c = N + (c - N) by omega, high, e1'] at hL'
        refine h1.inj x x' z z' L L' e4 e6 e6' (fun e => ?_) hL hL'
        subst e
        have := (List.getElem?_inj (lt_of_list e1) c3).1 (e1.trans e1'.symm)
        omega
  · rcases Nat.lt_or_ge j N with hlt | hge
    · rw [low j hlt] at hL
      exact h.own j b L (old j b hj hlt) hL hgj
    · obtain ⟨x, y, e1, e2, e3, e4, z, e5, e6⟩ := new j b hj hge
      rw [show j = N + (j - N) by omega, high, e1] at hL
      exact fun hb => h1.own x z L e6 hL e4 (h.size _ hb)
  · exact h.glob j b (old j b hj (by omega)) hlt
  · rw [low g (by omega)]; exact h.vars g hg

/-! ### Known calls -/
/-- In every state that has the variables a call of this function, without arguments, comes to this image. -/
def KnownI (P : Program) (gl : List Gv) (f : FuncId) (i : Img) : Prop :=
  ∀ (B : Base) (ρ : Rho) (σ : Nat → Value) (s : St) (w : World), R B ρ σ s w → hasG gl s = true → ∀ v s', place i s = some (v, s') → Calls P f #[] w (CallPost B ρ σ v s' w)

def findI (f : FuncId) : List (FuncId × Img) → Option Img
  | [] => none
  | (g, v) :: l => match Nat.beq f g with | true => some v | false => findI f l
def memoI (gl : List Gv) (rows : List (FuncId × Img)) (f : FuncId) (args : List AV) (s : St) : Option (AV × St) :=
  match args with
  | [] => match findI f rows with
    | some i => match hasG gl s with
      | true => place i s
      | false => none
    | none => none
  | _ => none

theorem findI_mem {f : FuncId} {v : Img} : ∀ {l : List (FuncId × Img)}, findI f l = some v → (f, v) ∈ l
  | [], h => by cases h
  | (g, u) :: l, h => by
    unfold findI at h
    split at h
    · rename_i hb
      cases h
      rw [Nat.eq_of_beq_eq_true hb]; simp
    · simp [findI_mem h]

theorem MemoOK.ofI {E : Env} {gl : List Gv} {rows : List (FuncId × Img)} (h : ∀ x ∈ rows, KnownI E.P gl x.1 x.2) : ∀ σ, MemoOK { E with memo := memoI gl rows } σ := by
  intro σ f args s v s' hm B ρ w va _ hR hva
  replace hm : memoI gl rows f args s = some (v, s') := hm
  unfold memoI at hm
  split at hm
  case h_2 => cases hm
  split at hm
  case h_2 => cases hm
  rename_i i hf
  split at hm
  case h_2 => cases hm
  rename_i hs
  have e : va = #[] := Array.ext' (by have h : va.toList = [] := hva; simpa using h)
  subst e
  exact h (f, i) (findI_mem hf) B ρ σ s w hR hs v s' hm

theorem KnownI.of {E : Env} (ok : ∀ σ, EnvS E σ) (mo : ∀ σ, MemoOK E σ) {gl : List Gv} (hl : GlOK gl) {f : FuncId} {n : Nat} {m : List Nat} {i : Img} (h : imgRun E gl f n m i = true) (hV : ∀ w, E.V w := by intro _; exact True.intro) : KnownI E.P gl f i := by
  intro B ρ σ s w hR hs v s2 hp cs
  unfold imgRun at h
  split at h
  case h_2 => cases h
  rename_i x s1 hx
  simp only [Bool.and_eq_true] at h
  obtain ⟨he, hc⟩ := h
  have := avEq_eq _ _ he
  subst this
  obtain ⟨e, w', fr, ⟨u, ρ1, rfl, hρ1, hu, hR1, hB⟩, h2⟩ := callN_ok (ok σ) (mo σ) (Hold.all hV _ _) (hR.start hl hs) (args := []) (va := #[]) rfl hx cs
  have hB := hB.at
  obtain ⟨ρ', hx', hv, hR'⟩ := hR.image hB hR1 (fun g hg => by
    obtain ⟨e0, hg0, _⟩ := hR.vars g hg
    rw [hg0]
    exact hρ1 g _ (by simp only [if_pos hg]; exact hg0)) hu hc hp
  exact ⟨_, w', fr, ⟨u, ρ', rfl, hx', hv, hR', ⟨hB.os, hB.tape, hB.output, hB.size, fun k hk => hB.block k (hR.size k hk)⟩⟩, h2⟩

/-- A known call at the beginning of a walk: what it hands back is plain. -/
theorem KnownI.calls {P : Program} {gl : List Gv} {f : FuncId} {v : AV} (h : KnownI P gl f ⟨v, []⟩) {σ : Nat → Value} {w : World}
    (hR : ∃ ρ, R (.at w.heap.size) ρ σ (stOf gl) w) (hs : hasG gl (stOf gl) = true) (hv : plainA v = true) :
    Calls P f #[] w (fun e w' => ∃ u, e = .returned u ∧ VR (fun _ => none) σ v u ∧ Below w.heap.size w w') := by
  obtain ⟨ρ, hR⟩ := hR
  intro cs
  obtain ⟨e, w', fr, ⟨u, ρ', rfl, _, hu, _, hB⟩, h2⟩ := h (.at w.heap.size) ρ σ (stOf gl) w hR hs v (stOf gl) (by
    unfold place
    cases hst : stOf gl with
    | mk N t =>
      simp only [putB]
      cases v <;> first | rfl | cases hv) cs
  exact ⟨_, w', fr, ⟨u, rfl, plainA_any hv hu, hB.at⟩, h2⟩
end
end Go.Eng

/-! The engine's runs of calls with plain arguments. No condition. -/
namespace Go.Eng
open Go.RowKit
noncomputable section

/-- The engine's run of a call with these arguments. -/
def argRun (E : Env) (gl : List Gv) (f : FuncId) (args : List AV) (n : Nat) (v : AV) : Bool :=
  match callN E (stOf gl) f args n with
  | some (x, _) => plainA v && avEq x v
  | none => false

theorem argRun_ok {E : Env} {σ : Nat → Value} (ok : EnvS E σ) (mo : MemoOK E σ) {gl : List Gv} {f : FuncId} {args : List AV} {n : Nat} {v : AV} (h : argRun E gl f args n v = true) {w : World}
    (hR : ∃ ρ, R (.at w.heap.size) ρ σ (stOf gl) w) {va : Array Value} (ha : VRs (fun _ => none) σ args va.toList) (hp : ∀ a ∈ args, plainA a = true) (hV : ∀ w, E.V w := by intro _; exact True.intro) :
    Calls E.P f va w (fun e w' => ∃ u, e = .returned u ∧ VR (fun _ => none) σ v u ∧ Below w.heap.size w w') := by
  obtain ⟨ρ, hR⟩ := hR
  unfold argRun at h
  split at h
  case h_2 => cases h
  rename_i x s' hx
  simp only [Bool.and_eq_true] at h
  obtain ⟨hv, he⟩ := h
  have := avEq_eq _ _ he
  subst this
  intro cs
  obtain ⟨e, w', fr, ⟨u, ρ', rfl, _, hu, _, hB⟩, h2⟩ := callN_ok ok mo (Hold.all hV _ _) hR (plains_any hp ha) hx cs
  exact ⟨_, w', fr, ⟨u, rfl, plainA_any hv hu, hB.at⟩, h2⟩
end
end Go.Eng

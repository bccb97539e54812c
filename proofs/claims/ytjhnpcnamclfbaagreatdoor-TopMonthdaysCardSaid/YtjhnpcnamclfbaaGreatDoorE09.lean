/- The engine: an abstract machine that runs closed code of any program, and its proof: part 9 of 14. No condition. -/
import Derived.Test.YtjhnpcnamclfbaaGreatDoorE08
/-! Regions whose order is drawn: the whole plan. No condition. -/
namespace Go.Eng
open Go.RowKit

section
variable {E : Env} {B : Base} {ρ ρ' : Rho} {σ : Nat → Value} {s s' : St} {w w' : World} {tm tm' tmM : T AV} {r : Res}
variable {own : List (Nat × (Nat × Blk))} {b0 : Nat → Prop} {q : List (List (Nat × Blk))} {pd : List (Nat × Blk)} {ops : Array Oper} {pl : List PI} {nt : Nat} {sch : List Nat} {tmps : Array Value} {all : List PD} {pn : List PN} {X : Nat} {so : Option St}

theorem DRw.ext (hρ : Ext ρ ρ') (D : DRw E own so ρ σ ops pl tm nt sch tmps all pn X tmM) : DRw E own so ρ' σ ops pl tm nt sch tmps all pn X tmM :=
  ⟨D.plan, D.ok, D.fill, D.sok, D.tr.ext hρ, D.agree, D.done, D.clos, D.wait, D.held, D.heldn⟩
theorem DRw.rest (D : DRw E own so ρ σ ops pl tm nt sch tmps all pn X tmM) : DRw E own none ρ σ ops pl tm nt sch tmps all pn X tmM :=
  ⟨D.plan, D.ok, D.fill, D.sok, D.tr, D.agree, D.done, D.clos, fun d hd h1 h2 => ⟨(D.wait d hd h1 h2).1, (D.wait d hd h1 h2).2.1, (D.wait d hd h1 h2).2.2.1, fun _ s e => by cases e⟩, D.held, D.heldn⟩

/-- Both have run an operation whose place is settled. -/
theorem DRw.both {d : PD} {a : Act} (D : DRw E own so ρ σ ops pl tm nt (d.j :: sch) a.tmps all (.op d.j :: pn) X tmM) (hj : nth all d.j = some d) (ho : ordO E d.o.op = true) (hρ : Ext ρ ρ') {x : AV} {v : Value} (hv : VR ρ' σ x v)
    (hput : putT tm nt d.o.dst x = some tm') (s : St) (hs : pureO E d.o.op = true → so = some s) :
    ∃ rest, pl = .op d.o :: rest ∧ DRw E own (some s) ρ' σ ops rest tm' nt sch (a.put d.o.dst v).tmps all pn (Nat.lor X (2 ^ d.j)) (putD tmM d.o.dst x) := by
  obtain ⟨hd, _⟩ := D.plan.nth hj
  obtain ⟨d', hd', hX, hsub, hat, _, hok⟩ := planOK_op D.ok
  rw [hj] at hd'; cases hd'
  obtain ⟨rest, hpl, hfill⟩ := fill_op hj D.fill
  obtain ⟨rfl, hlt⟩ := putD_of hput
  have hmost : ∀ t, d.o.dst = some t → t < T.most + 1 := fun t ht => Nat.lt_succ_of_le (Nat.le_trans (Nat.le_of_lt (hlt t ht)) D.tr.most)
  have up : ∀ q, bit X q = true → bit (Nat.lor X (2 ^ d.j)) q = true := fun q h => by rw [bit_or, h]; rfl
  have down : ∀ q, bit (Nat.lor X (2 ^ d.j)) q = true → bit X q = true ∨ q = d.j := fun q h => by
    rw [bit_or, bit_pow] at h
    simp only [Bool.or_eq_true, decide_eq_true_eq] at h
    rcases h with h | h
    · exact .inl h
    · exact .inr h.symm
  have here : bit (Nat.lor X (2 ^ d.j)) d.j = true := by rw [bit_or, bit_pow]; simp
  have hnd : d.j ∉ sch := (List.nodup_cons.1 D.sok.nodup).1
  refine ⟨rest, hpl, D.plan, hok, hfill, D.sok.tail, putT_ok' hρ D.tr (putT_of hlt) hv, fun t => ?_, fun d2 hd2 hn => ?_, fun d2 hd2 hX2 q hq => ?_, fun d2 hd2 hs2 hX2 => ?_, fun y hy => ?_, D.heldn⟩
  · rw [tget_putD hmost, tget_putD hmost]
    by_cases e : d.o.dst = some t
    · rw [if_pos e, if_pos e]; exact .inl rfl
    · rw [if_neg e, if_neg e]
      rcases D.agree t with h | ⟨d2, h1, h2, h3, h4⟩
      · exact .inl h
      · rcases List.mem_cons.1 h2 with h5 | h5
        · rw [h5, hX] at h3; cases h3
        · exact .inr ⟨d2, h1, h5, up _ h3, h4⟩
  · by_cases e : d2.j = d.j
    · rw [e]; exact here
    · exact up _ (D.done d2 hd2 (by simp [e, hn]))
  · rcases down _ hX2 with h | h
    · exact up _ (D.clos d2 hd2 h q hq)
    · have := D.plan.inj hd2 hd h
      subst this
      exact up _ (subM_spec hsub hq)
  · rcases down _ hX2 with h | h
    · obtain ⟨h1, h2, h3, h5⟩ := D.wait d2 hd2 (by simp [hs2]) h
      have hno : bit d.m d2.j = false := by
        cases hb : bit d.m d2.j with
        | false => rfl
        | true => exact absurd (List.mem_cons_of_mem _ hs2) (D.sok.first hd hb)
      refine ⟨h1, h2, fun hso => (h3 hso).put hmost (fun _ hy => hy) (D.apart hd hX hd2 h fun _ => hno), fun hso s' hs' => ?_⟩
      cases hs'
      have ha := hat ho d2 hd2
      unfold atOrd at ha
      rw [h] at ha
      simp only [h1, hno, hso, Bool.false_or, Bool.or_false, Bool.or_eq_true] at ha
      rcases ha with ha | ha
      · right
        rcases h5 hso s (hs ha) with h4 | h4
        · cases h4
        · exact h4.put hmost (D.apart hd hX hd2 h fun _ => hno)
      · exact .inl (memN_iff.1 ha)
    · rw [h] at hs2; exact absurd hs2 hnd
  · obtain ⟨d', hd', e, h1, h2, h3, h4⟩ := D.held y hy
    rcases List.mem_cons.1 h1 with e' | e'
    · rw [e', hX] at h2; cases h2
    · have hno : bit d.m d'.j = false := by
        cases hb : bit d.m d'.j with
        | false => rfl
        | true => exact absurd (List.mem_cons_of_mem _ e') (D.sok.first hd hb)
      exact ⟨d', hd', e, e', up _ h2, h3, by rw [wanted_put hmost fun t ht => (D.apart hd hX hd' h2 (fun _ => hno) t ht).1]; exact h4⟩

/-- A region of a drawn order, under way: the goroutine's own. -/
def DTop (E : Env) (pd : List (Nat × Blk)) (s : St) (ρ : Rho) (σ : Nat → Value) (ops : Array Oper) (pl : List PI) (tm : T AV) (nt : Nat) (sch : List Nat) (tmps : Array Value) : Prop :=
  ∃ own all pn X tmM, pd = own.map (·.2) ∧ DRw E own (some s) ρ σ ops pl tm nt sch tmps all pn X tmM
/-- The same, waiting for a call. -/
def DWait (E : Env) (pd : List (Nat × Blk)) (ρ : Rho) (σ : Nat → Value) (ops : Array Oper) (pl : List PI) (tm : T AV) (nt : Nat) (sch : List Nat) (tmps : Array Value) : Prop :=
  ∃ own all pn X tmM d sch', pd = own.map (·.2) ∧ sch = d.j :: sch' ∧ nth all d.j = some d ∧ ordO E d.o.op = true ∧ pureO E d.o.op = false ∧ DRw E own none ρ σ ops pl tm nt sch tmps all (.op d.j :: pn) X tmM

theorem DTop.ext (hρ : Ext ρ ρ') : DTop E pd s ρ σ ops pl tm nt sch tmps → DTop E pd s ρ' σ ops pl tm nt sch tmps
  | ⟨own, all, pn, X, tmM, e, D⟩ => ⟨own, all, pn, X, tmM, e, D.ext hρ⟩
theorem DWait.ext (hρ : Ext ρ ρ') : DWait E pd ρ σ ops pl tm nt sch tmps → DWait E pd ρ' σ ops pl tm nt sch tmps
  | ⟨own, all, pn, X, tmM, d, sch', e, h1, h2, h3, h4, D⟩ => ⟨own, all, pn, X, tmM, d, sch', e, h1, h2, h3, h4, D.ext hρ⟩

/-- What the wait was for has come. -/
theorem DWait.finish {a : Act} {o : Oper} {rest : List PI} {i : Nat} (D : DWait E pd ρ σ ops (.op o :: rest) tm nt (i :: sch) a.tmps) {x : AV} {v : Value} (hv : VR ρ σ x v) (hput : putT tm nt o.dst x = some tm') (s : St) :
    ops[i]? = some o ∧ DTop E pd s ρ σ ops rest tm' nt sch (a.put o.dst v).tmps := by
  obtain ⟨own, all, pn, X, tmM, d, sch', hpd, h1, h2, h3, h4, D⟩ := D
  cases h1
  obtain ⟨r, e, _⟩ := fill_op h2 D.fill
  cases e
  obtain ⟨hd, _⟩ := D.plan.nth h2
  obtain ⟨r, e, D'⟩ := D.both h2 h3 (Ext.refl _) hv hput s (fun e => by rw [h4] at e; cases e)
  cases e
  exact ⟨(D.plan.mem hd).2, _, _, _, _, _, hpd, D'⟩

def DregOK (E : Env) (b0 : Nat → Prop) (q : List (List (Nat × Blk))) (ρ : Rho) (σ : Nat → Value) (b : Frame) (k : List Item) (cs : List Frame) (nt : Nat) (ops : Array Oper) (ds : List Deferred) (M : Machine) (w : World) : RR → Prop
  | .done tm' s' => ∃ ρ' a' w', Ext ρ ρ' ∧ Steps E.P M (lone (b.atR a' k) cs w') ∧ Kept b0 w w' ∧ R ⟨b0, [] :: q⟩ ρ' σ s' w' ∧ TR ρ' σ tm' nt a'.tmps ∧ a'.defers = ds
  | .stop it tm' s' r => ∃ o rest i sch' ρ' a' w' tmM pd, it = .dreg ops (.op o :: rest) ∧ Ext ρ ρ' ∧ Steps E.P M (lone (b.atR a' (.inRegion ops (i :: sch') :: k)) cs w') ∧ Kept b0 w w' ∧
      R ⟨b0, pd :: q⟩ ρ' σ s' w' ∧ DWait E pd ρ' σ ops (.op o :: rest) tm' nt (i :: sch') a'.tmps ∧ TR ρ' σ tmM nt a'.tmps ∧ a'.defers = ds ∧ ops[i]? = some o ∧ Region.wanted o (yielded ops a'.tmps) = true ∧ aop E tmM s' o.op = some r
  | .stuck _ => True

theorem DregOK.head {b : Frame} {k : List Item} {cs : List Frame} {ds : List Deferred} {M M' : Machine} (hρ : Ext ρ ρ') (hs : Steps E.P M M') (hB : Kept b0 w w') :
    ∀ {x : RR}, DregOK E b0 q ρ' σ b k cs nt ops ds M' w' x → DregOK E b0 q ρ σ b k cs nt ops ds M w x
  | .done _ _, ⟨ρ2, a, w2, h1, h2, h3, h⟩ => ⟨ρ2, a, w2, hρ.trans h1, hs.trans h2, hB.trans h3, h⟩
  | .stop _ _ _ _, ⟨o, rest, i, is, ρ2, a, w2, tmM, pd, h0, h1, h2, h3, h⟩ => ⟨o, rest, i, is, ρ2, a, w2, tmM, pd, h0, hρ.trans h1, hs.trans h2, hB.trans h3, h⟩
  | .stuck _, _ => trivial

theorem soft_val {o : Op} (hs : softO o = true) {r : Res} (hx : aop E tm s o = some r) : ∃ v s', r = .val v s' := by
  cases o <;> first | (cases hs; done) | skip
  · replace hx : oAlloc E s _ = some r := hx
    unfold oAlloc at hx
    repeat' (split at hx)
    all_goals first | (cases hx; exact ⟨_, _, rfl⟩) | cases hx
  · replace hx : oBox tm s _ _ = some r := hx
    unfold oBox at hx
    repeat' (split at hx)
    all_goals first | (cases hx; exact ⟨_, _, rfl⟩) | cases hx
  · replace hx : oBuildSlice E tm s _ _ _ = some r := hx
    unfold oBuildSlice at hx
    repeat' (split at hx)
    all_goals first | (cases hx; exact ⟨_, _, rfl⟩) | cases hx
  · replace hx : oMap E tm s _ _ = some r := hx
    unfold oMap at hx
    repeat' (split at hx)
    all_goals first | (cases hx; exact ⟨_, _, rfl⟩) | cases hx
  · replace hx : oMkSlice E tm s _ _ _ = some r := hx
    unfold oMkSlice makeSliceA at hx
    repeat' (split at hx)
    all_goals first | (cases hx; exact ⟨_, _, rfl⟩) | cases hx

theorem dregT_ok (ok : EnvS E σ) {b : Frame} {k : List Item} {cs : List Frame} : ∀ (pn : List PN) (own : List (Nat × (Nat × Blk))) (pl : List PI) (sch : List Nat) (a : Act) (tm : T AV) (s : St) (ρ : Rho) (w : World) (X : Nat) (tmM : T AV), Hold E.V b0 w →
    DRw E own (some s) ρ σ ops pl tm nt sch a.tmps all pn X tmM → R (bas b0 own q) ρ σ s w → DregOK E b0 q ρ σ b k cs nt ops a.defers (lone (b.atR a (.inRegion ops sch :: k)) cs w) w (dregT pl E ops nt tm s)
  | [], own, pl, sch, a, tm, s, ρ, w, X, tmM, hv, D, h => by
    have hf := D.fill
    unfold fill at hf
    cases hf
    exact D.end ok (b := b) (k := k) (cs := cs) sch own a ρ w tmM hv h
  | .chk j :: pn, own, pl, sch, a, tm, s, ρ, w, X, tmM, hv, D, h => by
    have hj : ∃ d, nth all j = some d := by
      have hf := D.fill
      unfold fill at hf
      split at hf
      · rename_i d hd; exact ⟨d, hd⟩
      · cases hf
    obtain ⟨d, hj⟩ := hj
    obtain ⟨rest, rfl, _⟩ := fill_chk hj D.fill
    unfold dregT
    split
    · rename_i hx
      obtain ⟨rest', e, D'⟩ := D.look hj hx
      cases e
      exact dregT_ok ok pn own rest sch a tm s ρ w X tmM hv D' h
    · trivial
  | .op j :: pn, own, pl, sch, a, tm, s, ρ, w, X, tmM, hv, D, h => by
    obtain ⟨d, hj, hX, _, _, _, _⟩ := planOK_op D.ok
    obtain ⟨hd, hdj⟩ := D.plan.nth hj
    subst hdj
    obtain ⟨rest, rfl, _⟩ := fill_op hj D.fill
    unfold dregT
    unfold dopT
    cases ho : ordO E d.o.op with
    | false =>
      split
      · trivial
      · rename_i hw
        split
        · rename_i tm' hp
          obtain ⟨r', e, D'⟩ := D.early hj ho (.inr ⟨hw, rfl⟩) hp
          cases e
          exact dregT_ok ok pn own rest sch a tm' s ρ w _ _ hv D' h
        · trivial
      · rename_i hw
        split
        · trivial
        · rename_i r hr
          cases hso : softO d.o.op with
          | false =>
            obtain ⟨v, rfl⟩ := pure_val (ordO_pure ho hso) hr
            simp only
            split
            · rename_i tm' hp
              obtain ⟨r', e, D'⟩ := D.early hj ho (.inl ⟨hso, hw, hr⟩) hp
              cases e
              exact dregT_ok ok pn own rest sch a tm' s ρ w _ _ hv D' h
            · trivial
          | true =>
            obtain ⟨v, s1, rfl⟩ := soft_val hso hr
            obtain ⟨bb, kk, _, hnew, _⟩ := soft_of ok.ok hso hr
            simp only
            split
            · rename_i tm' hp
              obtain ⟨r', e, D'⟩ := D.lay hj ho hso hw hr hnew hp
              cases e
              exact dregT_ok ok pn _ rest sch a tm' s1 ρ w _ _ hv D' (R.vadd (B := ⟨b0, []⟩) h hnew)
            · trivial
    | true =>
      obtain ⟨sch', own1, ρ1, a1, w1, tm1, hρ1, hs1, hB1, hR1, D1, hdf1⟩ := D.catch ok (b := b) (k := k) (cs := cs) hj ho sch own a ρ w tmM hv h
      rw [← hdf1]
      refine DregOK.head hρ1 hs1 hB1 ?_
      obtain ⟨hal, hwc⟩ := reads_alike (D1.reads hd (.inr hX) fun q hq => D1.sok.first hd hq)
      have hoo := (D1.plan.mem hd).2
      split
      · trivial
      · rename_i hw
        split
        · rename_i tm' hp
          have hwm := wantedA_ok D1.tr (hwc ▸ hw)
          obtain ⟨r', e, D'⟩ := D1.both hj ho (Ext.refl _) (VR_undef) hp s (fun _ => rfl)
          cases e
          have := dregT_ok ok (b := b) (k := k) (cs := cs) pn own1 rest sch' (a1.put d.o.dst undef) tm' s ρ1 w1 _ _ (hv.kept hB1) D' hR1
          rw [Act.put_tail] at this
          exact this.head (Ext.refl _) (.one (stepR_unwanted hoo hwm)) (Kept.refl _ _)
        · trivial
      · rename_i hw
        have hwm := wantedA_ok D1.tr (hwc ▸ hw)
        split
        · trivial
        · rename_i r hr
          have hr' := hr
          change aop E tm s d.o.op = some r at hr'
          rw [aopT_congr hal] at hr'
          split
          · rename_i v s'
            split
            · rename_i tm' hp
              obtain ⟨ρ2, u, w2, hρ2, hs2, hB2, hR2, hu⟩ := opval_ok ok (hv.kept hB1).now (b := b) (k := k) (cs := cs) (rest := sch') hR1 D1.tr hoo hwm hr'
              obtain ⟨r', e, D'⟩ := D1.both hj ho hρ2 hu hp s' (fun e => by
                obtain ⟨x, e'⟩ := pure_val e hr'
                cases e'; rfl)
              cases e
              have := dregT_ok ok (b := b) (k := k) (cs := cs) pn own1 rest sch' (a1.put d.o.dst u) tm' s' ρ2 w2 _ _ ((hv.kept hB1).kept hB2) D' hR2
              rw [Act.put_tail] at this
              exact this.head hρ2 hs2 hB2
            · trivial
          · rename_i hnv
            have hnp : pureO E d.o.op = false := by
              cases hb : pureO E d.o.op with
              | false => rfl
              | true =>
                obtain ⟨x, e'⟩ := pure_val hb hr'
                exact absurd e' (hnv _ _)
            exact ⟨d.o, rest, d.j, sch', ρ1, a1, w1, tm1, _, rfl, Ext.refl _, .refl _ _, Kept.refl _ _, hR1, ⟨own1, all, pn, X, tm1, d, sch', rfl, rfl, hj, ho, hnp, D1.rest⟩, D1.tr, rfl, hoo, hwm, hr'⟩

/-- The plan at its start. -/
theorem dplan_start {a : Act} (hp : dplan E ops = some pl) (tr : TR ρ σ tm nt a.tmps) (t : Nat) : ∃ all pn, DRw E [] (some s) ρ σ ops pl tm nt (Region.linearise .any ops t) a.tmps all pn 0 tm := by
  unfold dplan at hp
  simp only at hp
  split at hp
  case h_2 => cases hp
  rename_i hc
  simp only [Bool.and_eq_true] at hc
  obtain ⟨⟨h1, h2⟩, h3⟩ := hc
  have p : Plan E ops (ancL ops.toList 0 []) := ⟨rfl, h1, h2⟩
  refine ⟨_, _, p, h3, hp, SchOK.start p t, tr, fun t => .inl rfl, fun d hd hn => ?_, fun d hd hX => absurd hX (by rw [bit_zero]; exact Bool.false_ne_true), fun d hd hs hX => absurd hX (by rw [bit_zero]; exact Bool.false_ne_true), fun y hy => (by cases hy), List.nodup_nil⟩
  exact absurd (((linearise_spec (fun i o ho e he hb => by
    obtain ⟨d, hd, rfl⟩ := p.ex (lt_of_get ho)
    have := (p.mem hd).2
    rw [ho] at this; cases this
    exact p.low' hd he (by rw [bindsA_eq]; exact hb)) t).2.1 d.j).2 (p.lt hd)) hn
end
end Go.Eng

/-! The engine's machine is the machine: frames. No condition. -/
namespace Go.Eng
open Go.RowKit

/-- What is to do, and the temporaries. -/
inductive TT (E : Env) (pd : List (Nat × Blk)) (so : Option St) (ρ : Rho) (σ : Nat → Value) (nt : Nat) (tm : T AV) : List AItem → List Item → Array Value → Prop
  | plain {todo : List AItem} {is : List Item} {tmps : Array Value} (hp : pd = []) (h : IRs ρ todo is) (tr : TR ρ σ tm nt tmps) : TT E pd so ρ σ nt tm todo is tmps
  | top {s : St} {ops : Array Oper} {pl : List PI} {k : List AItem} {sch : List Nat} {is : List Item} {tmps : Array Value} (hs : so = some s) (h : IRs ρ k is) (d : DTop E pd s ρ σ ops pl tm nt sch tmps) :
      TT E pd so ρ σ nt tm (.dreg ops pl :: k) (.inRegion ops sch :: is) tmps
  | wait {ops : Array Oper} {pl : List PI} {k : List AItem} {sch : List Nat} {is : List Item} {tmps : Array Value} (hs : so = none) (h : IRs ρ k is) (d : DWait E pd ρ σ ops pl tm nt sch tmps) :
      TT E pd so ρ σ nt tm (.dreg ops pl :: k) (.inRegion ops sch :: is) tmps

structure FrR (E : Env) (pd : List (Nat × Blk)) (so : Option St) (ρ : Rho) (σ : Nat → Value) (fr : AFr) (f : Frame) : Prop where
  fn : f.fn = fr.inf.fn
  kind : f.kind = fr.inf.kind
  ro : RoR ρ fr.inf.roundOf f.roundOf
  defers : DfR ρ σ fr.inf.defers f.defers
  mode : MdR ρ σ fr.inf.mode f.mode
  tt : TT E pd so ρ σ fr.inf.nt fr.tmps fr.todo f.todo f.tmps

def CsR (E : Env) (ρ : Rho) (σ : Nat → Value) (cs0 : List Frame) : List (List (Nat × Blk)) → List AFr → List Frame → Prop
  | q, [], cs => cs = cs0 ∧ q = []
  | q, a :: l, cs => ∃ f r pd q', cs = f :: r ∧ q = pd :: q' ∧ FrR E pd none ρ σ a f ∧ CsR E ρ σ cs0 q' l r

section
variable {E : Env} {B : Base} {ρ ρ' : Rho} {σ : Nat → Value} {s s' : St} {w w' : World} {tm tm' : T AV} {r : Res} {so so' : Option St} {nt : Nat} {pd : List (Nat × Blk)}

theorem TT.ext (hρ : Ext ρ ρ') {todo : List AItem} {is : List Item} {tmps : Array Value} : TT E pd so ρ σ nt tm todo is tmps → TT E pd so ρ' σ nt tm todo is tmps
  | .plain hp h tr => .plain hp (h.ext hρ) (tr.ext hρ)
  | .top hs h d => .top hs (h.ext hρ) (d.ext hρ)
  | .wait hs h d => .wait hs (h.ext hρ) (d.ext hρ)
theorem FrR.ext (hρ : Ext ρ ρ') {fr : AFr} {f : Frame} (h : FrR E pd so ρ σ fr f) : FrR E pd so ρ' σ fr f := ⟨h.fn, h.kind, h.ro.ext hρ, h.defers.ext hρ, h.mode.ext hρ, h.tt.ext hρ⟩
theorem CsR.ext {cs0 : List Frame} (hρ : Ext ρ ρ') : ∀ {q : List (List (Nat × Blk))} {l : List AFr} {cs : List Frame}, CsR E ρ σ cs0 q l cs → CsR E ρ' σ cs0 q l cs
  | _, [], _, e => e
  | _, _ :: _, _, ⟨f, r, pd, q', e, eq, h, hl⟩ => ⟨f, r, pd, q', e, eq, h.ext hρ, CsR.ext hρ hl⟩

theorem IRs.noD : ∀ {todo : List AItem} {is : List Item}, IRs ρ todo is → Eng.noD todo = true
  | [], _, _ => rfl
  | a :: l, _, ⟨_, _, _, h, _⟩ => by cases a <;> first | rfl | exact h.elim
theorem TT.noD {todo : List AItem} {is : List Item} {tmps : Array Value} (h : TT E pd so ρ σ nt tm todo is tmps) (hn : Eng.noD todo = true) : IRs ρ todo is ∧ TR ρ σ tm nt tmps := by
  cases h with
  | plain hp h tr => exact ⟨h, tr⟩
  | top _ _ _ => cases hn
  | wait _ _ _ => cases hn
theorem TT.noP {todo : List AItem} {is : List Item} {tmps : Array Value} (h : TT E pd so ρ σ nt tm todo is tmps) (hn : Eng.noD todo = true) : pd = [] := by
  cases h with
  | plain hp h tr => exact hp
  | top _ _ _ => cases hn
  | wait _ _ _ => cases hn

/-- What a frame was waiting for has come. -/
theorem finish_ok {fr fr' : AFr} {f : Frame} (h : FrR E pd none ρ σ fr f) {x : AV} {v : Value} (hv : VR ρ σ x v) (hf : fr.finish x = some fr') (s : St) : FrR E pd (some s) ρ σ fr' (f.finish v) := by
  obtain ⟨tm, todo, ⟨fn, nt, ds, md, kd, ro⟩⟩ := fr
  obtain ⟨ffn, tmps, ftodo, fds, fmd, fkd, fro⟩ := f
  obtain ⟨h1, h2, h3, h4, h5, h6⟩ := h
  simp only at h1 h2 h3 h4 h5 h6
  unfold AFr.finish at hf
  simp only at hf
  split at hf
  · -- a region in the order of the text
    rename_i ops o rest k
    split at hf
    case h_2 => cases hf
    rename_i tm' hp
    cases hf
    have hpd := h6.noP rfl
    obtain ⟨⟨it, r, e1, ⟨is, e2, hm⟩, hk⟩, tr⟩ := h6.noD rfl
    subst e1; subst e2
    cases is with
    | nil => simp at hm
    | cons i is =>
      simp only [List.map_cons, List.cons.injEq] at hm
      obtain ⟨ho, hm⟩ := hm
      have tr' := putT_ok (a := ⟨tmps, []⟩) tr hp hv
      refine ⟨?_, ?_, ?_, ?_, ?_, .plain (is := .inRegion ops is :: r) hpd ⟨_, _, rfl, ⟨is, rfl, hm⟩, hk⟩ ?_⟩ <;> simp only [Frame.finish, ho, Option.bind_some]
      · exact h1
      · exact h2
      · exact h3
      · exact h4
      · exact h5
      · cases hd : o.dst with
        | none => rw [hd] at tr'; exact tr'
        | some d => rw [hd] at tr'; exact tr'
  · -- a region of a drawn order
    rename_i ops o rest k
    split at hf
    case h_2 => cases hf
    rename_i tm' hp
    cases hf
    cases h6 with
    | plain _ h _ => obtain ⟨_, _, _, h, _⟩ := h; exact h.elim
    | top hs _ _ => cases hs
    | @wait _ _ _ sch is _ _ hk d =>
      obtain ⟨_, all, pn, X, tmM, dd, sch', _, e, _⟩ := id d
      subst e
      obtain ⟨ho, d'⟩ := DWait.finish (a := ⟨tmps, []⟩) d hv hp s
      refine ⟨h1, h2, h3, h4, h5, ?_⟩
      have e : ((⟨ffn, tmps, .inRegion ops (dd.j :: sch') :: is, fds, fmd, fkd, fro⟩ : Frame).finish v) = ⟨ffn, ((⟨tmps, []⟩ : Act).put o.dst v).tmps, .inRegion ops sch' :: is, fds, fmd, fkd, fro⟩ := by
        simp only [Frame.finish, ho, Option.bind_some]
        cases o.dst <;> rfl
      rw [e]
      exact .top rfl hk d'
  · -- a range over a function
    cases hf
    have hpd := h6.noP rfl
    obtain ⟨⟨it, r, e1, ⟨L, hL, e2⟩, hk⟩, tr⟩ := h6.noD rfl
    subst e1; subst e2
    exact ⟨h1, h2, h3, h4, h5, .plain hpd ⟨_, _, rfl, ⟨L, hL, rfl⟩, hk⟩ tr⟩
  · cases hf
    have hpd := h6.noP rfl
    obtain ⟨⟨it, r, e1, e2, hk⟩, tr⟩ := h6.noD rfl
    subst e1; subst e2
    exact ⟨h1, h2, h3, h4, h5, .plain hpd hk tr⟩
  · cases hf

theorem putAll_ok : ∀ (args : List AV) (i : Nat) (tm : T AV) (t : Nat), i + args.length ≤ T.most → tget (putAll args i tm) t = if i ≤ t ∧ t < i + args.length then (args[t - i]?).getD undefA else tget tm t
  | [], i, tm, t, _ => by
    unfold putAll
    rw [if_neg (by simp)]
  | v :: l, i, tm, t, h => by
    unfold putAll
    simp only [List.length_cons] at h
    rw [putAll_ok l (i + 1) _ t (by omega), tget_def (tm.put i v), T.get_put tm i v (by omega), List.length_cons]
    by_cases e : i = t
    · subst e
      rw [if_neg (by omega), if_pos (by omega)]; simp
    · by_cases c : i + 1 ≤ t ∧ t < i + 1 + l.length
      · rw [if_pos c, if_pos (by omega)]
        have : t - i = (t - (i + 1)) + 1 := by omega
        rw [this]; rfl
      · rw [if_neg c, if_neg e, if_neg (by omega), ← tget_def]

/-- A function is entered. -/
theorem enterA_ok (ok : EnvOK E) {f : FuncId} {args : List AV} {va : Array Value} (ha : VRs ρ σ args va.toList) {kind : CallKind} {fr : AFr} (h : enterA E f args kind = some fr) (s : St) : FrR E [] (some s) ρ σ fr (Frame.enter E.P f va kind) := by
  unfold enterA at h
  split at h
  case h_2 => cases h
  rename_i i hi
  split at h
  case h_2 => cases h
  rename_i c hc
  split at h
  case h_2 => cases h
  rename_i hb
  cases h
  obtain ⟨hfn, _⟩ := ok.fns f i hi
  have hlen := ha.length
  have hls : args.length = va.size := by rw [← hlen]; simp
  have hb' : max (len args) i.fn.ntmps ≤ T.most := Nat.le_of_ble_eq_true hb
  have e : Frame.enter E.P f va kind = { fn := f, tmps := va ++ Array.replicate (i.fn.ntmps - va.size) undef, todo := [.code c], defers := [], mode := .run, kind } := by
    simp [Frame.enter, hfn, hc]
  rw [e]
  refine ⟨rfl, rfl, rfl, rfl, rfl, .plain rfl ⟨_, _, rfl, rfl, rfl⟩ ⟨?_, hb', fun t => ?_⟩⟩
  · simp only [Array.size_append, Array.size_replicate, len_eq, hls]; omega
  · rw [len_eq] at hb'
    have hmost : 0 + args.length ≤ T.most := by omega
    show VR ρ σ (tget (putAll args 0 .leaf) t) _
    rw [putAll_ok args 0 .leaf t hmost]
    by_cases c : t < args.length
    · rw [if_pos (by omega)]
      have hl : args[t - 0]? = some args[t] := by simp [c]
      rw [hl]
      obtain ⟨v, hv1, hv2⟩ := ha.nth (show args[t]? = some args[t] by simp [c])
      have : (va ++ Array.replicate (i.fn.ntmps - va.size) undef).getD t undef = v := by
        rw [Array.getD_eq_getD_getElem?, Array.getElem?_append_left (by omega)]
        have : va.toList[t]? = some v := by simpa using hv1
        rw [Array.getElem?_toList] at this
        rw [this]; rfl
      rw [this]; exact hv2
    · rw [if_neg (by omega)]
      have : (va ++ Array.replicate (i.fn.ntmps - va.size) undef).getD t undef = undef := by
        rw [Array.getD_eq_getD_getElem?, Array.getElem?_append_right (by omega), Array.getElem?_replicate]
        split <;> rfl
      rw [this, tget_def, T.get_leaf]
      exact VR_undef
end
end Go.Eng

/-! The engine's machine is the machine: what an operation's result does. No condition. -/
namespace Go.Eng
open Go.RowKit

/-- Where the machine stands, as the engine has it. -/
structure MR1 (E : Env) (b0 : Nat → Prop) (pd : List (Nat × Blk)) (q : List (List (Nat × Blk))) (ρ : Rho) (σ : Nat → Value) (cs0 : List Frame) (m : AM) (fr : Frame) (cs : List Frame) (w : World) : Prop where
  fr : FrR E pd (some m.st) ρ σ m.fr fr
  cs : CsR E ρ σ cs0 q m.callers cs
  r : R ⟨b0, pd :: q⟩ ρ σ m.st w

/-- From this machine the engine's next one is come to. -/
def Goes (E : Env) (b0 : Nat → Prop) (ρ : Rho) (σ : Nat → Value) (cs0 : List Frame) (m' : AM) (M : Machine) (w : World) : Prop :=
  ∃ ρ' fr' cs' w' pd' q', Ext ρ ρ' ∧ Steps E.P M (lone fr' cs' w') ∧ Kept b0 w w' ∧ MR1 E b0 pd' q' ρ' σ cs0 m' fr' cs' w'

section
variable {E : Env} {B : Base} {b0 : Nat → Prop} {pd : List (Nat × Blk)} {q : List (List (Nat × Blk))} {ρ ρ' : Rho} {σ : Nat → Value} {s s' : St} {w w' : World} {tm tm' : T AV} {r : Res} {so so' : Option St} {nt : Nat} {cs0 : List Frame}

theorem Goes.head {m' : AM} {M M' : Machine} (hρ : Ext ρ ρ') (hs : Steps E.P M M') (hB : Kept b0 w w') : Goes E b0 ρ' σ cs0 m' M' w' → Goes E b0 ρ σ cs0 m' M w
  | ⟨ρ2, fr, cs, w2, pd', q', h1, h2, h3, h⟩ => ⟨ρ2, fr, cs, w2, pd', q', hρ.trans h1, hs.trans h2, hB.trans h3, h⟩

theorem FrR.any {fr : AFr} {f : Frame} (h : FrR E pd so ρ σ fr f) (hn : noD fr.todo = true) (so' : Option St) : FrR E pd so' ρ σ fr f :=
  ⟨h.fn, h.kind, h.ro, h.defers, h.mode, .plain (h.tt.noP hn) (h.tt.noD hn).1 (h.tt.noD hn).2⟩

/-- A frame that waits for an operation. -/
structure Stands (E : Env) (pd : List (Nat × Blk)) (ρ : Rho) (σ : Nat → Value) (s : St) (fr : AFr) (b : Frame) (a : Act) (ops : Array Oper) (i : Nat) (is : List Nat) (k : List Item) (o : Oper) (r : Res) : Prop where
  fr : FrR E pd none ρ σ fr (b.atR a (.inRegion ops (i :: is) :: k))
  op : ops[i]? = some o
  want : Region.wanted o (yielded ops a.tmps) = true
  ev : ∃ tmM nt, TR ρ σ tmM nt a.tmps ∧ aop E tmM s o.op = some r

theorem putParams_ok : ∀ (ps : List Tmp) (args : List AV) (tm tm' : T AV) (vs : List Value) (tmps : Array Value), putParams ps args nt tm = some tm' → VRs ρ σ args vs → TR ρ σ tm nt tmps →
    TR ρ σ tm' nt ((ps.zip vs).foldl (fun tmps (t, a) => tmps.setIfInBounds t a) tmps)
  | [], [], tm, tm', vs, tmps, h, hv, tr => by
    unfold putParams at h; cases h; cases hv; exact tr
  | [], _ :: _, _, _, _, _, h, _, _ => by unfold putParams at h; cases h
  | _ :: _, [], _, _, _, _, h, _, _ => by unfold putParams at h; cases h
  | p :: ps, x :: args, tm, tm', vs, tmps, h, hv, tr => by
    obtain ⟨v, r, rfl, h1, h2⟩ := hv
    unfold putParams at h
    split at h
    · rename_i hb
      have hlt : p < nt := by
        have : Nat.ble (p + 1) nt = true := hb
        exact Nat.le_of_ble_eq_true this
      rw [List.zip_cons_cons, List.foldl_cons]
      exact putParams_ok ps args _ tm' r _ h h2 (tr.put hlt h1)
    · cases h

/-- What a call of the engine's comes to is what the machine's call comes to. -/
def CallPost (B : Base) (ρ : Rho) (σ : Nat → Value) (v : AV) (s' : St) (w : World) (e : Ending) (w' : World) : Prop :=
  ∃ u ρ', e = .returned u ∧ Ext ρ ρ' ∧ VR ρ' σ v u ∧ R B ρ' σ s' w' ∧ Kept B.b w w'

/-- The calls that are known are so. -/
def MemoOK (E : Env) (σ : Nat → Value) : Prop :=
  ∀ f args s v s', E.memo f args s = some (v, s') → ∀ (B : Base) (ρ : Rho) (w : World) (va : Array Value), Hold E.V B.b w → R B ρ σ s w → VRs ρ σ args va.toList → Calls E.P f va w (CallPost B ρ σ v s' w)

theorem applyA_ok (ok : EnvS E σ) (mo : MemoOK E σ) (hv : Hold E.V b0 w) {fr : AFr} {b : Frame} {a : Act} {ops : Array Oper} {i : Nat} {is : List Nat} {k : List Item} {o : Oper} {callers : List AFr} {cs : List Frame} {m' : AM}
    (st : Stands E pd ρ σ s fr b a ops i is k o r) (hcs : CsR E ρ σ cs0 q callers cs) (h : R ⟨b0, pd :: q⟩ ρ σ s w) (hx : applyA E fr callers r s = some m') :
    Goes E b0 ρ σ cs0 m' (lone (b.atR a (.inRegion ops (i :: is) :: k)) cs w) w := by
  obtain ⟨tmM, nt', tr, hop⟩ := st.ev
  have he := Act.evOK h tr
  have hr := aop_ok ok hv.now h he hop
  have hG := stepGR_op (P := E.P) (b := b) (a := a) (k := k) (cs := cs) (w := w) (rest := is) st.op st.want
  cases r with
  | val v s' =>
    unfold applyA at hx
    simp only at hx
    split at hx
    case h_2 => cases hx
    rename_i fr' hf
    cases hx
    obtain ⟨ρ', u, w', hρ, hs, hB, hR, hu⟩ := opval_ok ok hv.now (b := b) (k := k) (cs := cs) (rest := is) h tr st.op st.want hop
    have hfin := finish_ok (st.fr.ext hρ) hu hf s'
    rw [Frame.finish_atR, st.op] at hfin
    exact ⟨ρ', _, cs, w', pd, q, hρ, hs, hB, hfin, hcs.ext hρ, hR⟩
  | enter f args s' =>
    have hs : o.semAt b.roundOf a.eval = execOp a.eval o := Oper.semAt_eq _ _ _ (fun c e => by
      rw [e] at hop
      replace hop : oDefer tmM c = some (.enter f args s') := hop
      unfold oDefer at hop
      repeat' (split at hop)
      all_goals cases hop)
    unfold applyA at hx
    simp only at hx
    split at hx
    · rename_i v s2 hmem
      split at hx
      case h_2 => cases hx
      rename_i fr' hf
      cases hx
      cases hrun : (execOp a.eval o).run E.P w with
      | halt e w' =>
        rw [hrun] at hr
        cases e <;> first | exact hr.elim | (obtain ⟨_, _, e, _⟩ := hr; cases e)
      | ok nx w' =>
        rw [hrun] at hr
        obtain ⟨hB, ρ', hρ, hR, va, rfl, hva⟩ := hr
        obtain ⟨e, w2, fr2, ⟨u, ρ2, rfl, hρ2, hu, hR2, hB2⟩, hcomes, hfn, hl⟩ := mo f args s' v s2 hmem ⟨b0, pd :: q⟩ ρ' w' va (hv.kept hB) hR hva (b.atR a (.inRegion ops (i :: is) :: k) :: cs)
        have hfin := finish_ok (st.fr.ext (hρ.trans hρ2)) hu hf s2
        have h1 : Steps E.P (lone (b.atR a (.inRegion ops (i :: is) :: k)) cs w) (lone (Frame.enter E.P f va .normal) (b.atR a (.inRegion ops (i :: is) :: k) :: cs) w') := by
          refine .one (step_lone_go ?_)
          rw [hG, hs]
          simp [stepG.apply, Sem.runT_eq, hrun, Frame.atR]
        exact ⟨ρ2, _, cs, w2, pd, q, hρ.trans hρ2, (h1.trans hcomes).trans (.one (step_leave_returned hl)), hB.trans hB2, hfin, hcs.ext (hρ.trans hρ2), hR2⟩
    split at hx
    case h_2 => cases hx
    rename_i fr' hent
    cases hx
    cases hrun : (execOp a.eval o).run E.P w with
    | halt e w' =>
      rw [hrun] at hr
      cases e <;> first | exact hr.elim | (obtain ⟨_, _, e, _⟩ := hr; cases e)
    | ok nx w' =>
      rw [hrun] at hr
      obtain ⟨hB, ρ', hρ, hR, va, rfl, hva⟩ := hr
      have hen := enterA_ok ok.ok hva hent s'
      refine ⟨ρ', _, _ :: cs, w', [], pd :: q, hρ, .one (step_lone_go ?_), hB, hen, ⟨_, _, _, _, rfl, rfl, st.fr.ext hρ, hcs.ext hρ⟩, hR.rebase rfl (by simp)⟩
      rw [hG, hs]
      simp [stepG.apply, Sem.runT_eq, hrun, Frame.atR]
  | round l args =>
    have hs : o.semAt b.roundOf a.eval = execOp a.eval o := Oper.semAt_eq _ _ _ (fun c e => by
      rw [e] at hop
      replace hop : oDefer tmM c = some (.round l args) := hop
      unfold oDefer at hop
      repeat' (split at hop)
      all_goals cases hop)
    unfold applyA at hx
    simp only at hx
    split at hx
    case h_2 => cases hx
    rename_i st0 pe0 fn tmps nt ps as bd df hl
    split at hx
    case h_2 => cases hx
    rename_i tm' hp
    cases hx
    cases hrun : (execOp a.eval o).run E.P w with
    | halt e w' =>
      rw [hrun] at hr
      cases e <;> first | exact hr.elim | (obtain ⟨_, _, e, _⟩ := hr; cases e)
    | ok nx w' =>
      rw [hrun] at hr
      obtain ⟨hB, ρ', hρ, rfl, rfl, L, va, hL, hva, lp, hlp, hlen, rfl⟩ := hr
      obtain ⟨ob, hob, z, lp', rfl, e1, e2, e3, e4, e5, e6, e7, _⟩ := h.here hl hL
      rw [hlp] at hob; cases hob
      have tr' := putParams_ok _ _ _ _ _ _ hp hva e4
      rw [e5] at hrun
      have hfr : FrR E [] (some s) ρ' σ ⟨tm', [.code as, .beginRound, .code bd], ⟨fn, nt, [], .run, .normal, some l⟩⟩ (Frame.round L.blk lp.fn ((ps.zip va).foldl (fun tmps (t, a) => tmps.setIfInBounds t a) lp.tmps) lp.assign lp.body .normal) :=
        ⟨e3, rfl, ⟨L, hL, rfl⟩, rfl, rfl, .plain rfl (is := [.code lp.assign, .beginRound, .code lp.body]) ⟨_, _, rfl, congrArg Item.code e6, _, _, rfl, rfl, _, _, rfl, congrArg Item.code e7, rfl⟩ tr'⟩
      refine ⟨ρ', _, _ :: cs, w', [], pd :: q, Ext.refl _, .one (step_lone_go ?_), hB, hfr, ⟨_, _, _, _, rfl, rfl, st.fr, hcs⟩, h.rebase rfl (by simp)⟩
      rw [hG, hs]
      simp [stepG.apply, Sem.runT_eq, hrun, Frame.atR, Frame.round]
  | defer d =>
    obtain ⟨tmf, todo, ⟨fn, nt, ds, md, kd, ro⟩⟩ := fr
    unfold applyA at hx
    simp only at hx
    split at hx
    · cases hx
    rename_i hro
    split at hx
    case h_2 => cases hx
    rename_i fr' hf
    cases hx
    have hsf := st.fr
    have hb : b.roundOf = none := hsf.ro
    have hs : o.semAt b.roundOf a.eval = execOp a.eval o := by rw [hb]; rfl
    cases hrun : (execOp a.eval o).run E.P w with
    | halt e w' =>
      rw [hrun] at hr
      cases e <;> first | exact hr.elim | (obtain ⟨_, _, e, _⟩ := hr; cases e)
    | ok nx w' =>
      rw [hrun] at hr
      obtain ⟨hB, ρ', hρ, hn⟩ := hr
      cases d with
      | collected _ => exact hn.elim
      | call f args =>
        obtain ⟨rfl, rfl, va, vc, rfl, hv⟩ := hn
        have hfr : FrR E pd none ρ' σ ⟨tmf, todo, ⟨fn, nt, .call f args :: ds, md, kd, none⟩⟩ (b.atR { a with defers := { target := .fn (.func f) vc, args := va } :: a.defers } (.inRegion ops (i :: is) :: k)) :=
          ⟨hsf.fn, hsf.kind, hsf.ro, ⟨va, vc, _, rfl, hv, hsf.defers⟩, hsf.mode, hsf.tt⟩
        have hfin := finish_ok hfr VR_undef hf s
        refine ⟨ρ', _, cs, w', pd, q, Ext.refl _, .one (step_lone_go ?_), hB, hfin, hcs, h⟩
        rw [hG, hs]
        simp [stepG.apply, Sem.runT_eq, hrun, Frame.atR]
  | recover =>
    have hs : o.semAt b.roundOf a.eval = execOp a.eval o := Oper.semAt_eq _ _ _ (fun c e => by
      rw [e] at hop
      replace hop : oDefer tmM c = some .recover := hop
      unfold oDefer at hop
      repeat' (split at hop)
      all_goals cases hop)
    cases hrun : (execOp a.eval o).run E.P w with
    | halt e w' =>
      rw [hrun] at hr
      cases e <;> first | exact hr.elim | (obtain ⟨_, _, e, _⟩ := hr; cases e)
    | ok nx w' =>
      rw [hrun] at hr
      obtain ⟨hB, ρ', hρ, rfl, rfl, rfl⟩ := hr
      unfold applyA at hx
      simp only at hx
      split at hx
      case h_2 => cases hx
      rename_i tmc todoc fnc ntc dsc mdc kdc roc csA hro hkd
      have hb : b.roundOf = none := by have := st.fr.ro; rw [hro] at this; exact this
      have hk : b.kind = .deferred := st.fr.kind.trans hkd
      obtain ⟨cf, cr, pd1, q1, rfl, rfl, hc, hcr⟩ := hcs
      split at hx
      · rename_i v older
        split at hx
        case h_2 => cases hx
        rename_i fr' hf
        cases hx
        obtain ⟨ps, hps, u, pr, rfl, hu, hpr⟩ := hc.mode
        have hfin := finish_ok st.fr hu hf s
        have hc' : FrR E pd1 none ρ' σ ⟨tmc, todoc, ⟨fnc, ntc, dsc, .panicking ((v, true) :: older), kdc, roc⟩⟩ { cf with mode := .panicking ({ v := u, recovered := true, goexit := false } :: pr) } :=
          ⟨hc.fn, hc.kind, hc.ro, hc.defers, ⟨_, rfl, u, pr, rfl, hu, hpr⟩, hc.tt⟩
        refine ⟨ρ', _, _ :: cr, w', pd, pd1 :: q1, Ext.refl _, .one (step_lone_go ?_), hB, hfin, ⟨_, _, _, _, rfl, rfl, hc', hcr⟩, h⟩
        rw [hG, hs]
        simp [stepG.apply, Sem.runT_eq, hrun, Frame.atR, hb, hk, tryRecover, hps]
      · rename_i hno
        split at hx
        case h_2 => cases hx
        rename_i fr' hf
        cases hx
        have hfin := finish_ok st.fr (x := .nilIface) (v := .nilIface) rfl hf s
        refine ⟨ρ', _, cf :: cr, w', pd, pd1 :: q1, Ext.refl _, .one (step_lone_go ?_), hB, hfin, ⟨_, _, _, _, rfl, rfl, hc, hcr⟩, h⟩
        have htry : tryRecover (b.atR a (.inRegion ops (i :: is) :: k)) (cf :: cr) = none := by
          have hk' : (b.atR a (.inRegion ops (i :: is) :: k)).kind = .deferred := hk
          unfold tryRecover
          rw [hk']
          simp only
          have hm := hc.mode
          cases mdc with
          | run => rw [show cf.mode = .run from hm]
          | returning => rw [show cf.mode = .returning from hm]
          | panicking ch =>
            obtain ⟨ps, hps, hpr⟩ := hm
            rw [hps]
            cases ch with
            | nil => cases hpr; rfl
            | cons x l =>
              obtain ⟨x1, x2⟩ := x
              obtain ⟨u, pr, rfl, _, _⟩ := hpr
              cases x2 with
              | true => rfl
              | false => exact absurd rfl (hno _ _)
        rw [hG, hs]
        simp [stepG.apply, Sem.runT_eq, hrun, Frame.atR, hb] at htry ⊢
        simp [htry]
  | panic v =>
    have hs : o.semAt b.roundOf a.eval = execOp a.eval o := Oper.semAt_eq _ _ _ (fun c e => by
      rw [e] at hop
      replace hop : oDefer tmM c = some (.panic v) := hop
      unfold oDefer at hop
      repeat' (split at hop)
      all_goals cases hop)
    obtain ⟨tmf, todo, ⟨fn, nt, ds, md, kd, ro⟩⟩ := fr
    unfold applyA at hx
    simp only at hx
    split at hx
    case h_2 => cases hx
    split at hx
    case h_2 => cases hx
    rename_i hnd
    cases hx
    cases hrun : (execOp a.eval o).run E.P w with
    | ok nx w' =>
      rw [hrun] at hr
      obtain ⟨_, _, _, hn⟩ := hr
      exact hn.elim
    | halt e w' =>
      rw [hrun] at hr
      cases e <;> first | exact hr.elim | skip
      rename_i u
      obtain ⟨rfl, x, e, hxu⟩ := hr
      cases e
      have hf := st.fr
      refine ⟨ρ, _, cs, w', pd, q, Ext.refl _, .one (step_lone_go (fr' := { b.atR a (.inRegion ops (i :: is) :: k) with mode := .panicking [{ v := u, recovered := false }] }) (w' := w') (cs' := cs) ?_), Kept.refl _ _,
        ⟨hf.fn, hf.kind, hf.ro, hf.defers, ⟨_, rfl, u, [], rfl, hxu, rfl⟩, .plain (hf.tt.noP hnd) (hf.tt.noD hnd).1 (hf.tt.noD hnd).2⟩, hcs, h⟩
      rw [hG, hs]
      simp [stepG.apply, Sem.runT_eq, hrun, Frame.raise_atR]
end
end Go.Eng

/-! The engine's machine is the machine: returns. No condition. -/
namespace Go.Eng
open Go.RowKit

theorem Frame.as_atR {f : Frame} (h : f.mode = .run) : f = f.atR { tmps := f.tmps, defers := f.defers } f.todo := by
  cases f; simp_all [Frame.atR]

section
variable {E : Env} {b0 : Nat → Prop} {q : List (List (Nat × Blk))} {ρ ρ' : Rho} {σ : Nat → Value} {s s' : St} {w w' : World} {tm tm' : T AV} {r : Res} {so so' : Option St} {nt : Nat} {cs0 : List Frame}

/-- A value goes to the caller. -/
theorem doReturnA_ok {P : Program} {f : Frame} {callers : List AFr} {cs : List Frame} (hcs : CsR E ρ σ cs0 q callers cs) (h : R ⟨b0, [] :: q⟩ ρ σ s w) {x : AV} {v : Value} (hv : VR ρ σ x v) {m' : AM} (hx : doReturnA f.kind callers x s = some m') :
    ∃ fr' cs' pd' q', (doReturn P true f cs none v w).bare = .go { frame := fr', callers := cs', status := .running, dying := none } w ∧ MR1 E b0 pd' q' ρ σ cs0 m' fr' cs' w := by
  unfold doReturnA at hx
  split at hx
  · cases hx
  rename_i c cl
  obtain ⟨cf, cr, pd1, q1, rfl, rfl, hc, hcr⟩ := hcs
  have h' : R ⟨b0, pd1 :: q1⟩ ρ σ s w := h.rebase rfl (by simp)
  split at hx
  · rename_i hk
    split at hx
    case h_2 => cases hx
    rename_i c' hf
    cases hx
    exact ⟨cf.finish v, cr, pd1, q1, by simp [doReturn, hk], finish_ok hc hv hf s, hcr, h'⟩
  · rename_i hk
    obtain ⟨tmc, todoc, ⟨fnc, ntc, dsc, mdc, kdc, roc⟩⟩ := c
    simp only at hx
    split at hx
    case h_2 => cases hx
    rename_i hn
    have hb := hc.any hn (some s)
    split at hx
    · rename_i v0 older
      cases hx
      obtain ⟨ps, hps, u, pr, rfl, hu, hpr⟩ := hc.mode
      refine ⟨{ cf with mode := .returning }, cr, pd1, q1, ?_, ⟨hb.fn, hb.kind, hb.ro, hb.defers, rfl, hb.tt⟩, hcr, h'⟩
      simp [doReturn, hk, hps, PnR.plain hpr]
    · rename_i hno
      cases hx
      refine ⟨cf, cr, pd1, q1, ?_, hb, hcr, h'⟩
      have hm := hc.mode
      cases mdc with
      | run => simp [doReturn, hk, show cf.mode = .run from hm]
      | returning => simp [doReturn, hk, show cf.mode = .returning from hm]
      | panicking ch =>
        obtain ⟨ps, hps, hpr⟩ := hm
        cases ch with
        | nil => cases hpr; simp [doReturn, hk, hps]
        | cons x l =>
          obtain ⟨x1, x2⟩ := x
          obtain ⟨u, pr, rfl, _, _⟩ := hpr
          cases x2 with
          | true => exact absurd rfl (hno _ _)
          | false => simp [doReturn, hk, hps]
  · cases hx
end
end Go.Eng

/-! The engine's machine is the machine: results. No condition. -/
namespace Go.Eng
open Go.RowKit

section
variable {E : Env} {B : Base} {ρ ρ' : Rho} {σ : Nat → Value} {s s' : St} {w w' : World} {tm tm' : T AV} {nt : Nat}

def resOf (tmps : Array Value) : ResultVar → Sem Value
  | .tmp t => pure (tmps.getD t undef)
  | .cell a t => do loadVar t (← asAddr (tmps.getD a undef))

theorem results_def (fn : Func) (tmps : Array Value) : results fn tmps = (do
    let vs ← fn.results.mapM (resOf tmps)
    pure (if h : vs.size = 1 then vs[0] else .tuple vs)) := by
  unfold results
  congr 2

theorem resultsA_ok (ok : EnvOK E) (h : R B ρ σ s w) {tmps : Array Value} (tr : TR ρ σ tm nt tmps) : ∀ {rs : List ResultVar} {as : List AV}, resultsA E s tm rs = some as →
    ∃ vs, (rs.mapM (resOf tmps) : Sem (List Value)).run E.P w = .ok vs w ∧ VRs ρ σ as vs
  | [], as, hx => by
    unfold resultsA at hx; cases hx
    exact ⟨[], by simp, rfl⟩
  | r :: rs, as, hx => by
    unfold resultsA at hx
    split at hx
    case h_2 => cases hx
    rename_i a ha
    split at hx
    case h_2 => cases hx
    rename_i l hl
    cases hx
    obtain ⟨vs, h1, h2⟩ := resultsA_ok ok h tr hl
    have : ∃ v, (resOf tmps r).run E.P w = .ok v w ∧ VR ρ σ a v := by
      unfold resultA at ha
      cases r with
      | tmp t => cases ha; exact ⟨_, rfl, tr.vals t⟩
      | cell c t =>
        simp only at ha
        split at ha
        case h_2 => cases ha
        rename_i i o hp
        have hv := tr.vals c
        rw [hp] at hv
        obtain ⟨L, hL, hv⟩ := hv
        obtain ⟨v, h3, h4⟩ := loadA_spec ok h ha hL
        refine ⟨v, ?_, h4⟩
        simp only [resOf, hv, asAddr, Sem.run_bind, Sem.run_pure, Result.andThen_ok]
        exact h3
    obtain ⟨v, h3, h4⟩ := this
    exact ⟨v :: vs, by simp [List.mapM_cons, h3, h1], v, vs, rfl, h4, h2⟩

theorem retVal_ok (ok : EnvOK E) (h : R B ρ σ s w) {fr : AFr} {tmps : Array Value} {nt : Nat} (tr : TR ρ σ fr.tmps nt tmps) {a : AV} (hx : retVal E s fr = some a) :
    ∃ fn v, E.P.funcs[fr.inf.fn]? = some fn ∧ (results fn tmps).run E.P w = .ok v w ∧ VR ρ σ a v := by
  unfold retVal at hx
  split at hx
  case h_2 => cases hx
  rename_i i hi
  obtain ⟨h1, _⟩ := ok.fns _ _ hi
  refine ⟨i.fn, ?_⟩
  split at hx
  · rename_i v hv
    cases hx
    obtain ⟨vs, h2, h3⟩ := resultsA_ok ok h tr hv
    obtain ⟨u, r, rfl, hu, hr⟩ := h3
    cases hr
    refine ⟨u, h1, ?_, hu⟩
    rw [results_def, Array.mapM_eq_mapM_toList]
    simp [h2]
  · rename_i vs' hv hne
    cases hx
    obtain ⟨vs, h2, h3⟩ := resultsA_ok ok h tr hne
    refine ⟨.tuple vs.toArray, h1, ?_, _, rfl, by simpa using h3⟩
    have hl := h3.length
    have : ¬ vs.length = 1 := fun e => by
      rw [hl] at e
      cases vs' with
      | nil => simp at e
      | cons x l =>
        cases l with
        | nil => exact hv x rfl
        | cons => simp at e
    rw [results_def, Array.mapM_eq_mapM_toList]
    simp [h2, this]
  · cases hx
end
end Go.Eng

/-! The engine's machine is the machine: one step. No condition. -/
namespace Go.Eng
open Go.RowKit

section
variable {E : Env} {B : Base} {b0 : Nat → Prop} {pd : List (Nat × Blk)} {q : List (List (Nat × Blk))} {ρ ρ' : Rho} {σ : Nat → Value} {s s' : St} {w w' : World} {tm tm' : T AV} {nt : Nat} {cs0 : List Frame}

theorem exitA_ok {id : Nat} : ∀ {k : List AItem} {is : List Item}, IRs ρ k is → (∀ k', exitA id k = some k' → ∃ is', exitTo id is = some is' ∧ IRs ρ k' is') ∧ (exitA id k = none → exitTo id is = none)
  | [], is, h => by
    cases h
    exact ⟨fun k' e => by simp [exitA] at e, fun _ => rfl⟩
  | a :: l, is, ⟨i, r, e, ha, hl⟩ => by
    subst e
    obtain ⟨h1, h2⟩ := exitA_ok (id := id) hl
    cases a with
    | inBlock id' =>
      cases ha
      unfold exitA exitTo
      cases hb : Nat.beq id' id with
      | true =>
        have e : id' = id := Nat.eq_of_beq_eq_true hb
        subst e
        simp only [beq_self_eq_true, if_true]
        exact ⟨fun k' e => by cases e; exact ⟨_, rfl, hl⟩, fun e => by cases e⟩
      | false =>
        have e : (id' == id) = false := by
          cases hq : (id' == id) with
          | false => rfl
          | true =>
            have : id' = id := by simpa using hq
            subst this; simp at hb
        simp only [e, Bool.false_eq_true, if_false]
        exact ⟨h1, h2⟩
    | code c => cases ha; exact ⟨h1, h2⟩
    | inLoop c => cases ha; exact ⟨h1, h2⟩
    | reg ops l => obtain ⟨is', rfl, _⟩ := ha; exact ⟨h1, h2⟩
    | dreg _ _ => exact ha.elim
    | inRangeFunc l => obtain ⟨L, _, rfl⟩ := ha; exact ⟨h1, h2⟩
    | endRangeFunc l => obtain ⟨L, _, rfl⟩ := ha; exact ⟨h1, h2⟩
    | beginRound => cases ha; exact ⟨h1, h2⟩

theorem loop_at (h : R B ρ σ s w) {l : Nat} {L : Loc} (hL : ρ l = some L) {st : LoopState} {pe : Option Code} {fn : FuncId} {tmps : T AV} {nt : Nat} {ps : List Tmp} {as bd : Code} {df : Nat} (hl : s.get l = some (.loop st pe fn tmps nt ps as bd df)) :
    ∃ lp : Loop, w.heap[L.blk]? = some (.loop lp) ∧ lp.state = st ∧ lp.pending = pe ∧ BO ρ σ L (.loop st pe fn tmps nt ps as bd df) (.loop lp) ∧ gN ≤ l := by
  obtain ⟨ob, hob, hb⟩ := h.here hl hL
  obtain ⟨z, lp, rfl, e1, e2, r⟩ := id hb
  refine ⟨lp, hob, e1, e2, hb, ?_⟩
  rcases Nat.lt_or_ge l gN with h' | h'
  · rcases h.glob l _ hl h' with ⟨_, _, e⟩ | ⟨_, _, e⟩ <;> cases e
  · exact h'

/-- The record of a loop is written. -/
theorem loop_set (h : R B ρ σ s w) {l : Nat} {L : Loc} (hL : ρ l = some L) {st st' : LoopState} {pe pe' : Option Code} {fn : FuncId} {tmps : T AV} {nt : Nat} {ps : List Tmp} {as bd : Code} {df : Nat}
    (hl : s.get l = some (.loop st pe fn tmps nt ps as bd df)) {lp : Loop} (hlp : w.heap[L.blk]? = some (.loop lp)) :
    Kept B.b w { w with heap := w.heap.setIfInBounds L.blk (.loop { lp with state := st', pending := pe' }) } ∧
    R B ρ σ (s.put l (.loop st' pe' fn tmps nt ps as bd df)) { w with heap := w.heap.setIfInBounds L.blk (.loop { lp with state := st', pending := pe' }) } := by
  obtain ⟨lp', hlp', e1, e2, hb, hg⟩ := loop_at h hL hl
  rw [hlp] at hlp'; cases hlp'
  obtain ⟨z, lp2, e, _, _, e3, e4, e5, e6, e7, e8⟩ := hb
  cases e
  have k := Upd.setObj w L.blk (.loop { lp with state := st', pending := pe' }) (lt_of_get hlp)
  exact ⟨k.below (h.own l _ L hl hL hg), h.upd hl hL hg k ⟨z, _, rfl, rfl, rfl, e3, e4, e5, e6, e7, e8⟩⟩

/-- A frame is left. -/
theorem leaveA_ok {fr : AFr} {b : Frame} {a : Act} {todo : List Item} {callers : List AFr} {cs : List Frame} {jump : Option Code} {m' : AM} (hf : FrR E pd (some s) ρ σ fr (b.atR a todo)) (hn : noD fr.todo = true) (hcs : CsR E ρ σ cs0 q callers cs)
    (h : R ⟨b0, pd :: q⟩ ρ σ s w) (hx : leaveA fr callers s jump = some m')
    (hstep : (b.roundOf = none → (jump = none ∨ jump = some .ret) → step E.P (lone (b.atR a todo) cs w) = .next (lone { b.atR a todo with mode := .returning } cs w)) ∧
      (∀ l v w1, b.roundOf = some l → (Instr.endRound l jump).run E.P w = .ok v w1 → ∀ fr' cs', (doReturn E.P true (b.atR a todo) cs none v w1).bare = .go { frame := fr', callers := cs', status := .running, dying := none } w1 → step E.P (lone (b.atR a todo) cs w) = .next (lone fr' cs' w1))) :
    Goes E b0 ρ σ cs0 m' (lone (b.atR a todo) cs w) w := by
  have hpd := hf.tt.noP hn
  subst hpd
  obtain ⟨tm, atodo, ⟨fn, nt, ds, md, kd, ro⟩⟩ := fr
  unfold leaveA at hx
  simp only at hx
  split at hx
  · rename_i hro
    have hbr : b.roundOf = none := hf.ro
    have fin : m' = ⟨⟨tm, atodo, ⟨fn, nt, ds, .returning, kd, none⟩⟩, callers, s⟩ → (jump = none ∨ jump = some .ret) → Goes E b0 ρ σ cs0 m' (lone (b.atR a todo) cs w) w := by
      rintro rfl hj
      exact ⟨ρ, _, cs, w, [], q, Ext.refl _, .one (hstep.1 hbr hj), Kept.refl _ _, ⟨hf.fn, hf.kind, hf.ro, hf.defers, rfl, hf.tt⟩, hcs, h⟩
    split at hx
    · cases hx; exact fin rfl (.inl rfl)
    · cases hx; exact fin rfl (.inr rfl)
    · cases hx
  · rename_i l
    obtain ⟨L, hL, hbr⟩ := hf.ro
    have hbr' : b.roundOf = some L.blk := hbr
    split at hx
    case h_2 => cases hx
    rename_i st pe lfn ltm lnt ps as bd df hl
    obtain ⟨lp, hlp, _⟩ := loop_at h hL hl
    cases jump with
    | none =>
      obtain ⟨hB, hR⟩ := loop_set h hL hl hlp (st' := .ready) (pe' := none)
      have hg : (Instr.getLoop L.blk).run E.P w = .ok lp w := by simp [Instr.getLoop, run_getObj, hlp]
      have hend : (Instr.endRound L.blk (none)).run E.P w = .ok (.bool true) { w with heap := w.heap.setIfInBounds L.blk (.loop { lp with state := .ready, pending := none }) } := by
        unfold Instr.endRound
        simp [hg, setObj, Sem.run, hlp]
      obtain ⟨fr', cs', pd', q', hdo, hm⟩ := doReturnA_ok (P := E.P) (f := b.atR a todo) hcs hR (x := .bool true) (v := .bool true) rfl (m' := m') (by rw [hf.kind]; exact hx)
      exact ⟨ρ, fr', cs', _, pd', q', Ext.refl _, .one (hstep.2 L.blk _ _ hbr' hend fr' cs' hdo), hB, hm⟩
    | some c =>
      obtain ⟨hB, hR⟩ := loop_set h hL hl hlp (st' := .done) (pe' := some c)
      have hg : (Instr.getLoop L.blk).run E.P w = .ok lp w := by simp [Instr.getLoop, run_getObj, hlp]
      have hend : (Instr.endRound L.blk (some c)).run E.P w = .ok (.bool false) { w with heap := w.heap.setIfInBounds L.blk (.loop { lp with state := .done, pending := some c }) } := by
        unfold Instr.endRound
        simp [hg, setObj, Sem.run, hlp]
      obtain ⟨fr', cs', pd', q', hdo, hm⟩ := doReturnA_ok (P := E.P) (f := b.atR a todo) hcs hR (x := .bool false) (v := .bool false) rfl (m' := m') (by rw [hf.kind]; exact hx)
      exact ⟨ρ, fr', cs', _, pd', q', Ext.refl _, .one (hstep.2 L.blk _ _ hbr' hend fr' cs' hdo), hB, hm⟩
end
end Go.Eng

/-! The engine's machine is the machine: a frame that unwinds. No condition. -/
namespace Go.Eng
open Go.RowKit

section
variable {E : Env} {b0 : Nat → Prop} {pd : List (Nat × Blk)} {q : List (List (Nat × Blk))} {ρ ρ' : Rho} {σ : Nat → Value} {s s' : St} {w w' : World} {tm tm' : T AV} {nt : Nat} {cs0 : List Frame}

theorem stepG_unwind {P : Program} {f : Frame} {cs : List Frame} (h : f.mode ≠ .run) : stepG P true { frame := f, callers := cs, status := .running, dying := none } w = unwind P true f cs none w := by
  unfold stepG
  cases hm : f.mode <;> simp_all

theorem unwindA_ok (ok : EnvOK E) {todo : List AItem} {fn : Nat} {defers : List ADef} {mode : AMode} {kd : CallKind} {ro : Option Nat} {f : Frame} {callers : List AFr} {cs : List Frame} {m' : AM}
    (hf : FrR E pd (some s) ρ σ ⟨tm, todo, ⟨fn, nt, defers, mode, kd, ro⟩⟩ f) (hmd : f.mode ≠ .run) (hcs : CsR E ρ σ cs0 q callers cs) (h : R ⟨b0, pd :: q⟩ ρ σ s w) (hx : unwindA E tm todo fn nt defers mode kd ro callers s = some m') :
    Goes E b0 ρ σ cs0 m' (lone f cs w) w := by
  unfold unwindA at hx
  split at hx
  · rename_i d ds
    split at hx
    · rename_i r
      split at hx
      case h_2 => cases hx
      rename_i hn
      split at hx
      case h_2 => cases hx
      rename_i hr
      cases hx
      obtain ⟨L, dr, hL, hd, hdr⟩ := hf.defers
      obtain ⟨ob, hob, z, rfl⟩ := h.here hr hL
      have hg : gN ≤ r := by
        rcases Nat.lt_or_ge r gN with h' | h'
        · rcases h.glob r _ hr h' with ⟨_, _, e⟩ | ⟨_, _, e⟩ <;> cases e
        · exact h'
      have k := Upd.setObj w L.blk (.deferred none) (lt_of_get hob)
      have hR := h.upd hr hL hg k (b' := .deferred false) ⟨z, rfl⟩
      have hf' := hf.any hn (some (s.put r (.deferred false)))
      refine ⟨ρ, { f with defers := dr }, cs, _, pd, q, Ext.refl _, .one (step_lone_go ?_), k.below (h.own r _ L hr hL hg), ⟨hf'.fn, hf'.kind, hf'.ro, hdr, hf'.mode, hf'.tt⟩, hcs, hR⟩
      have ht : (Instr.takeDeferred L.blk).run E.P w = .ok [] { w with heap := w.heap.setIfInBounds L.blk (.deferred none) } := by
        unfold Instr.takeDeferred
        simp [run_getObj, hob, setObj, Sem.run]
      rw [stepG_unwind hmd]
      unfold unwind
      rw [hd]
      simp [Sem.runT_eq, ht]
    · rename_i g args
      split at hx
      case h_2 => cases hx
      rename_i hn
      split at hx
      case h_2 => cases hx
      rename_i g' args' s1 hcall
      split at hx
      case h_2 => cases hx
      rename_i fr' hent
      cases hx
      obtain ⟨va, vc, dr, hd, hv, hdr⟩ := hf.defers
      have hr := callA_ok ok h hv hcall
      cases hrun : (callFunc g (va ++ vc)).run E.P w with
      | halt e w' =>
        rw [hrun] at hr
        cases e <;> first | exact hr.elim | (obtain ⟨_, _, e, _⟩ := hr; cases e)
      | ok nx w' =>
        rw [hrun] at hr
        obtain ⟨hB, ρ', hρ, hR, va', rfl, hva⟩ := hr
        have hen := enterA_ok ok hva hent s1
        have hf' := (hf.any hn none).ext hρ
        refine ⟨ρ', _, { f with defers := dr } :: cs, w', [], pd :: q, hρ, .one (step_lone_go ?_), hB, hen, ⟨_, _, _, _, rfl, rfl, ⟨hf'.fn, hf'.kind, hf'.ro, hdr.ext hρ, hf'.mode, hf'.tt⟩, hcs.ext hρ⟩, hR.rebase rfl (by simp)⟩
        rw [stepG_unwind hmd]
        unfold unwind
        rw [hd]
        simp [callDeferred, Sem.runT_eq, invoke, hrun]
  · have hd : f.defers = [] := hf.defers
    split at hx
    · rename_i chain
      split at hx
      case h_2 => cases hx
      rename_i hnown
      split at hx
      · cases hx
      rename_i i hi
      obtain ⟨hfn, _⟩ := ok.fns _ _ hi
      split at hx
      · cases hx
      rename_i tm1 todo1 fn1 nt1 ds1 md1 kd1 ro1 cl
      split at hx
      case h_2 => cases hx
      rename_i hn1
      cases hx
      have hpd := hf.tt.noP hnown
      subst hpd
      obtain ⟨cf, cr, pd1, q1, rfl, rfl, hc, hcr⟩ := hcs
      have h' : R ⟨b0, pd1 :: q1⟩ ρ σ s w := h.rebase rfl (by simp)
      obtain ⟨ps, hps, hpr⟩ := hf.mode
      have hcat : f.catches E.P = false := by
        unfold Frame.catches
        rw [show f.fn = fn from hf.fn, hfn]
      have hc' := hc.any hn1 (some s)
      have key : ∀ fr1, FrR E pd1 (some s) ρ σ fr1 (cf.raise ps) → Goes E b0 ρ σ cs0 ⟨fr1, cl, s⟩ (lone f (cf :: cr) w) w := by
        intro fr1 hrz
        refine ⟨ρ, cf.raise ps, cr, w, pd1, q1, Ext.refl _, .one (step_lone_go ?_), Kept.refl _ _, hrz, hcr, h'⟩
        rw [stepG_unwind hmd]
        unfold unwind
        rw [hd, hps]
        simp [hcat]
      have hm := hc.mode
      cases md1 with
      | run => exact key _ (by rw [show cf.raise ps = { cf with mode := .panicking ps } by unfold Frame.raise; rw [show cf.mode = .run from hm]]; exact ⟨hc'.fn, hc'.kind, hc'.ro, hc'.defers, ⟨ps, rfl, hpr⟩, hc'.tt⟩)
      | returning => exact key _ (by rw [show cf.raise ps = { cf with mode := .panicking ps } by unfold Frame.raise; rw [show cf.mode = .returning from hm]]; exact ⟨hc'.fn, hc'.kind, hc'.ro, hc'.defers, ⟨ps, rfl, hpr⟩, hc'.tt⟩)
      | panicking old =>
        obtain ⟨po, hpo, hpor⟩ := hm
        exact key _ (by
          rw [show cf.raise ps = { cf with mode := .panicking (ps ++ po) } by unfold Frame.raise; rw [hpo]]
          exact ⟨hc'.fn, hc'.kind, hc'.ro, hc'.defers, ⟨_, rfl, hpr.append hpor⟩, hc'.tt⟩)
    · rename_i hnp
      split at hx
      case h_2 => cases hx
      rename_i hn
      split at hx
      case h_2 => cases hx
      rename_i v hv
      have hret : f.mode = .returning := by
        have hm := hf.mode
        cases mode with
        | run => exact absurd hm hmd
        | returning => exact hm
        | panicking c => exact absurd rfl (hnp c)
      have tr := (hf.tt.noD hn).2
      obtain ⟨fnr, v', h1, h2, h3⟩ := retVal_ok ok h tr hv
      have hpd := hf.tt.noP hn
      subst hpd
      obtain ⟨fr', cs', pd', q', hdo, hm⟩ := doReturnA_ok (P := E.P) (f := f) hcs h h3 (by rw [hf.kind]; exact hx)
      refine ⟨ρ, fr', cs', w, pd', q', Ext.refl _, .one (step_lone_go ?_), Kept.refl _ _, hm⟩
      rw [stepG_unwind hmd]
      unfold unwind
      rw [hd, hret]
      have h1' : E.P.funcs[f.fn]? = some fnr := by rw [hf.fn]; exact h1
      simp [h1', Sem.runT_eq, h2, hdo]
end
end Go.Eng

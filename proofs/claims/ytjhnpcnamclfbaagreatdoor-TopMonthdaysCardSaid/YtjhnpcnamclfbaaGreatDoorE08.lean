/- The engine: an abstract machine that runs closed code of any program, and its proof: part 8 of 14. No condition. -/
import Derived.Test.YtjhnpcnamclfbaaGreatDoorE07
import Derived.Orders
/-! Regions in the order of the text: the engine's run is the machine's. No condition. -/
namespace Go.Eng
open Go.RowKit

section
variable {P : Program} {b : Frame} {a : Act} {k : List Item} {cs : List Frame} {w w' : World} {ops : Array Oper}

theorem stepR_value {i : Nat} {rest : List Nat} {o : Oper} {v : Value} (ho : ops[i]? = some o) (hw : Region.wanted o (yielded ops a.tmps) = true) (hs : (o.semAt b.roundOf a.eval).run P w = .ok (.value v) w') :
    step P (lone (b.atR a (.inRegion ops (i :: rest) :: k)) cs w) = .next (lone (b.atR (a.put o.dst v) (.inRegion ops rest :: k)) cs w') := by
  have e : (ops[i]?).bind (·.dst) = o.dst := by rw [ho]; rfl
  rw [← e, ← Frame.finish_atR]
  exact step_lone_go (by rw [stepGR_op ho hw]; simp [stepG.apply, Sem.runT_eq, hs])
theorem stepR_skipv {i : Nat} {rest : List Nat} {o : Oper} (ho : ops[i]? = some o) (hw : Region.wanted o (yielded ops a.tmps) = true) (hs : (o.semAt b.roundOf a.eval).run P w = .ok .skip w') :
    step P (lone (b.atR a (.inRegion ops (i :: rest) :: k)) cs w) = .next (lone (b.atR (a.put o.dst undef) (.inRegion ops rest :: k)) cs w') := by
  have e : (ops[i]?).bind (·.dst) = o.dst := by rw [ho]; rfl
  rw [← e, ← Frame.finish_atR]
  exact step_lone_go (by rw [stepGR_op ho hw]; simp [stepG.apply, Sem.runT_eq, hs])
theorem stepR_unwanted {i : Nat} {rest : List Nat} {o : Oper} (ho : ops[i]? = some o) (hw : Region.wanted o (yielded ops a.tmps) = false) :
    step P (lone (b.atR a (.inRegion ops (i :: rest) :: k)) cs w) = .next (lone (b.atR (a.put o.dst undef) (.inRegion ops rest :: k)) cs w) := by
  have := stepR_op_skip (P := P) (b := b) (a := a) (k := k) (cs := cs) (w := w) (ops := ops) (i := i) (rest := rest) (by rw [ho]; simp [hw])
  rwa [ho] at this
end

section
variable {E : Env} {B : Base} {ρ ρ' : Rho} {σ : Nat → Value} {s s' : St} {w w' : World} {tm tm' : T AV} {r : Res}

theorem not_defer {o : Op} {v : AV} (hx : aop E tm s o = some (.val v s')) : ∀ c, o ≠ .defer c := by
  rintro c rfl
  replace hx : oDefer tm c = some (.val v s') := hx
  unfold oDefer at hx
  repeat' (split at hx)
  all_goals cases hx

/-- An operation that yields a value: one step. -/
theorem opval_ok (ok : EnvS E σ) (hV : E.V w) {nt : Nat} {b : Frame} {a : Act} {k : List Item} {cs : List Frame} {ops : Array Oper} {i : Nat} {rest : List Nat} {o : Oper} (h : R B ρ σ s w) (tr : TR ρ σ tm nt a.tmps)
    (ho : ops[i]? = some o) (hw : Region.wanted o (yielded ops a.tmps) = true) {v : AV} (hx : aop E tm s o.op = some (.val v s')) :
    ∃ ρ' u w', Ext ρ ρ' ∧ Steps E.P (lone (b.atR a (.inRegion ops (i :: rest) :: k)) cs w) (lone (b.atR (a.put o.dst u) (.inRegion ops rest :: k)) cs w') ∧ Kept B.b w w' ∧ R B ρ' σ s' w' ∧ VR ρ' σ v u := by
  have he := Act.evOK h tr
  have hr := aop_ok ok hV h he hx
  have hs : o.semAt b.roundOf a.eval = execOp a.eval o := Oper.semAt_eq _ _ _ (not_defer hx)
  cases hrun : (execOp a.eval o).run E.P w with
  | halt e w' =>
    rw [hrun] at hr
    cases e <;> first | exact hr.elim | (obtain ⟨_, _, e, _⟩ := hr; cases e)
  | ok nx w' =>
    rw [hrun] at hr
    obtain ⟨hB, ρ', hρ, hR, hv⟩ := hr
    rcases hv with ⟨u, rfl, hu⟩ | ⟨rfl, rfl⟩
    · exact ⟨ρ', u, w', hρ, .one (stepR_value ho hw (by rw [hs]; exact hrun)), hB, hR, hu⟩
    · exact ⟨ρ', undef, w', hρ, .one (stepR_skipv ho hw (by rw [hs]; exact hrun)), hB, hR, ⟨#[], rfl, rfl⟩⟩

theorem VR_undef : VR ρ σ undefA undef := ⟨#[], rfl, rfl⟩

theorem putT_ok' {nt : Nat} {a : Act} (hρ : Ext ρ ρ') (tr : TR ρ σ tm nt a.tmps) {d : Option Tmp} {x : AV} {v : Value} (h : putT tm nt d x = some tm') (hv : VR ρ' σ x v) : TR ρ' σ tm' nt (a.put d v).tmps :=
  putT_ok (tr.ext hρ) h hv

theorem Act.put_tail (a : Act) (d : Option Tmp) (v : Value) : (a.put d v).defers = a.defers := by cases d <;> rfl

def RegOK (E : Env) (B : Base) (ρ : Rho) (σ : Nat → Value) (b : Frame) (k : List Item) (cs : List Frame) (nt : Nat) (ops : Array Oper) (ds : List Deferred) (M : Machine) (w : World) : RR → Prop
  | .done tm' s' => ∃ ρ' a' w', Ext ρ ρ' ∧ Steps E.P M (lone (b.atR a' k) cs w') ∧ Kept B.b w w' ∧ R B ρ' σ s' w' ∧ TR ρ' σ tm' nt a'.tmps ∧ a'.defers = ds
  | .stop it tm' s' r => ∃ o rest i is' ρ' a' w', it = .reg ops (o :: rest) ∧ Ext ρ ρ' ∧ Steps E.P M (lone (b.atR a' (.inRegion ops (i :: is') :: k)) cs w') ∧ Kept B.b w w' ∧
      R B ρ' σ s' w' ∧ TR ρ' σ tm' nt a'.tmps ∧ a'.defers = ds ∧ ops[i]? = some o ∧ is'.map (ops[·]?) = rest.map some ∧ Region.wanted o (yielded ops a'.tmps) = true ∧ aop E tm' s' o.op = some r
  | .stuck _ => True

theorem RegOK.head {b : Frame} {k : List Item} {cs : List Frame} {nt : Nat} {ops : Array Oper} {ds : List Deferred} {M M' : Machine} (hρ : Ext ρ ρ') (hs : Steps E.P M M') (hB : Kept B.b w w') :
    ∀ {x : RR}, RegOK E B ρ' σ b k cs nt ops ds M' w' x → RegOK E B ρ σ b k cs nt ops ds M w x
  | .done _ _, ⟨ρ2, a, w2, h1, h2, h3, h⟩ => ⟨ρ2, a, w2, hρ.trans h1, hs.trans h2, hB.trans h3, h⟩
  | .stop _ _ _ _, ⟨o, rest, i, is, ρ2, a, w2, h0, h1, h2, h3, h⟩ => ⟨o, rest, i, is, ρ2, a, w2, h0, hρ.trans h1, hs.trans h2, hB.trans h3, h⟩
  | .stuck _, _ => trivial

theorem regT_ok (ok : EnvS E σ) {nt : Nat} {b : Frame} {k : List Item} {cs : List Frame} {ops : Array Oper} : ∀ (l : List Oper) (is : List Nat) (a : Act) (tm : T AV) (s : St) (ρ : Rho) (w : World),
    Hold E.V B.b w → is.map (ops[·]?) = l.map some → TR ρ σ tm nt a.tmps → R B ρ σ s w → RegOK E B ρ σ b k cs nt ops a.defers (lone (b.atR a (.inRegion ops is :: k)) cs w) w (regT l E ops nt tm s)
  | [], is, a, tm, s, ρ, w, _, hm, tr, h => by
    cases is with
    | cons => simp at hm
    | nil => exact ⟨ρ, a, w, Ext.refl _, .one stepR_region_end, Kept.refl _ _, h, tr, rfl⟩
  | o :: l, is, a, tm, s, ρ, w, hv, hm, tr, h => by
    cases is with
    | nil => simp at hm
    | cons i is =>
      simp only [List.map_cons, List.cons.injEq] at hm
      obtain ⟨ho, hm⟩ := hm
      have eq : regT (o :: l) E ops nt tm s = Option.rec (motive := fun _ => RR) (.stuck o)
          (fun w => Bool.rec (motive := fun _ => RR)
            (Option.rec (motive := fun _ => RR) (.stuck o) (fun tm' => regT l E ops nt tm' s) (putT tm nt o.dst undefA))
            (Option.rec (motive := fun _ => RR) (.stuck o)
              (fun r => Res.rec (motive := fun _ => RR)
                (fun v s' => Option.rec (motive := fun _ => RR) (.stuck o) (fun tm' => regT l E ops nt tm' s') (putT tm nt o.dst v))
                (fun f args s' => .stop (.reg ops (o :: l)) tm s (.enter f args s')) (fun q args => .stop (.reg ops (o :: l)) tm s (.round q args)) (fun d => .stop (.reg ops (o :: l)) tm s (.defer d))
                (.stop (.reg ops (o :: l)) tm s .recover) (fun v => .stop (.reg ops (o :: l)) tm s (.panic v)) r)
              (aop E tm s o.op))
            w)
          (wantedA ops tm o) := rfl
      rw [eq]
      cases hwa : wantedA ops tm o with
      | none => trivial
      | some wb =>
        have hw := wantedA_ok tr hwa
        cases wb with
        | false =>
          simp only
          cases hp : putT tm nt o.dst undefA with
          | none => trivial
          | some tm' =>
            have := regT_ok ok (b := b) (k := k) (cs := cs) l is (a.put o.dst undef) tm' s ρ w hv hm (putT_ok tr hp VR_undef) h
            rw [Act.put_tail] at this
            exact this.head (Ext.refl _) (.one (stepR_unwanted ho hw)) (Kept.refl _ _)
        | true =>
          simp only
          cases hx : aop E tm s o.op with
          | none => trivial
          | some r =>
            have stop : ∀ r, aop E tm s o.op = some r → RegOK E B ρ σ b k cs nt ops a.defers (lone (b.atR a (.inRegion ops (i :: is) :: k)) cs w) w (.stop (.reg ops (o :: l)) tm s r) :=
              fun r hr => ⟨o, l, i, is, ρ, a, w, rfl, Ext.refl _, .refl _ _, Kept.refl _ _, h, tr, rfl, ho, hm, hw, hr⟩
            cases r with
            | val v s' =>
              simp only
              cases hp : putT tm nt o.dst v with
              | none => trivial
              | some tm' =>
                obtain ⟨ρ', u, w', hρ, hs, hB, hR, hu⟩ := opval_ok ok hv.now (b := b) (k := k) (cs := cs) (rest := is) h tr ho hw hx
                have := regT_ok ok (b := b) (k := k) (cs := cs) l is (a.put o.dst u) tm' s' ρ' w' (hv.kept hB) hm (putT_ok' hρ tr hp hu) hR
                rw [Act.put_tail] at this
                exact this.head hρ hs hB
            | enter f args s' => exact stop _ hx
            | round q args => exact stop _ hx
            | defer d => exact stop _ hx
            | recover => exact stop _ hx
            | panic v => exact stop _ hx
end
end Go.Eng

/-! Schedules: every drawn order keeps to the edges. No condition. -/
namespace Go.Eng
open Go.RowKit

/-- The direct edges hold along a list. -/
def Keeps (ops : Array Oper) (L : List Nat) : Prop := ∀ pre i post, L = pre ++ i :: post → ∀ o, ops[i]? = some o → ∀ e ∈ o.after, Region.binds .any e = true → e.on ∈ pre

theorem Keeps.snoc {ops : Array Oper} {L : List Nat} {i : Nat} (h : Keeps ops L) (hi : ∀ o, ops[i]? = some o → ∀ e ∈ o.after, Region.binds .any e = true → e.on ∈ L) : Keeps ops (L ++ [i]) := by
  intro pre j post he o ho e hm hb
  rcases List.eq_nil_or_concat post with rfl | ⟨p, x, rfl⟩
  · have := List.append_inj' (s₁ := L) (t₁ := [i]) (s₂ := pre) (t₂ := [j]) (by simpa using he) rfl
    obtain ⟨rfl, h2⟩ := this
    cases h2
    exact hi o ho e hm hb
  · have : L ++ [i] = (pre ++ j :: p) ++ [x] := by rw [he]; simp
    obtain ⟨rfl, _⟩ := List.append_inj' this rfl
    exact h pre j p rfl o ho e hm hb

theorem linearise_go_spec {ops : Array Oper} (low : ∀ i o, ops[i]? = some o → ∀ e ∈ o.after, Region.binds .any e = true → e.on < i) :
    ∀ (fuel t : Nat) (listed : Array Bool) (acc : List Nat), listed.size = ops.size → (∀ i, listed.getD i false = true ↔ i ∈ acc) → acc.Nodup → (∀ i ∈ acc, i < ops.size) → Keeps ops acc.reverse →
      acc.length + fuel = ops.size → (Region.linearise.go .any ops fuel t listed acc).Nodup ∧ (∀ i, i ∈ Region.linearise.go .any ops fuel t listed acc ↔ i < ops.size) ∧ Keeps ops (Region.linearise.go .any ops fuel t listed acc) := by
  intro fuel
  induction fuel with
  | zero =>
    intro t listed acc hsz hl hn hlt hk hf
    refine ⟨(List.reverse_perm acc).nodup_iff.2 hn, fun i => ?_, by simpa [Region.linearise.go] using hk⟩
    simp only [Region.linearise.go, List.mem_reverse]
    refine ⟨hlt i, fun hi => ?_⟩
    rcases Classical.em (i ∈ acc) with h | h
    · exact h
    · have h1 : (i :: acc).Nodup := List.nodup_cons.2 ⟨h, hn⟩
      have h2 : (i :: acc).length ≤ (List.range ops.size).length := List.Nodup.length_le_of_subset h1 fun x hx => by
        rcases List.mem_cons.1 hx with e | e
        · subst e; exact List.mem_range.2 hi
        · exact List.mem_range.2 (hlt x e)
      simp at h2; omega
  | succ fuel ih =>
    intro t listed acc hsz hl hn hlt hk hf
    have hrdef : Region.ready .any ops listed = (List.range ops.size).filter fun i =>
        !listed.getD i true && ((ops[i]?).map (·.after.all fun e => !Region.binds .any e || listed.getD e.on false)).getD false := rfl
    have hgo : Region.linearise.go .any ops (fuel + 1) t listed acc = match (Region.ready .any ops listed)[t % (Region.ready .any ops listed).length]? with
        | some i => Region.linearise.go .any ops fuel (t / (Region.ready .any ops listed).length) (listed.setIfInBounds i true) (i :: acc)
        | none => acc.reverse := rfl
    rw [hgo]
    have hgd : ∀ i, i < ops.size → listed.getD i true = listed.getD i false := fun i hi => by
      rw [Array.getD_eq_getD_getElem?, Array.getD_eq_getD_getElem?, Array.getElem?_eq_getElem (by omega)]; rfl
    -- something is ready
    have hne : Region.ready .any ops listed ≠ [] := by
      intro hnil
      have all : ∀ n, ∀ i, i < n → i < ops.size → i ∈ acc := by
        intro n
        induction n with
        | zero => intro i hi; omega
        | succ n ihn =>
          intro i hi hio
          rcases Classical.em (i ∈ acc) with h | h
          · exact h
          · have : i ∈ Region.ready .any ops listed := by
              rw [mem_ready]
              refine ⟨?_, ops[i], by simp [hio], fun e he hb => ?_⟩
              · rw [hgd i hio]
                cases hx : listed.getD i false with
                | false => rfl
                | true => exact absurd ((hl i).1 hx) h
              · have hlow := low i ops[i] (by simp [hio]) e he hb
                exact (hl _).2 (ihn e.on (by omega) (by omega))
            rw [hnil] at this; cases this
      have h2 : (List.range ops.size).length ≤ acc.length := List.Nodup.length_le_of_subset List.nodup_range fun x hx => all ops.size x (List.mem_range.1 hx) (List.mem_range.1 hx)
      simp at h2; omega
    have hpos : 0 < (Region.ready .any ops listed).length := List.length_pos_iff.2 hne
    have hlt' : t % (Region.ready .any ops listed).length < (Region.ready .any ops listed).length := Nat.mod_lt _ hpos
    rw [List.getElem?_eq_getElem hlt']
    simp only
    have hmem := List.getElem_mem hlt'
    generalize (Region.ready .any ops listed)[t % (Region.ready .any ops listed).length] = i at hmem
    rw [mem_ready] at hmem
    obtain ⟨h0, o, ho, hall⟩ := hmem
    have hio : i < ops.size := lt_of_get ho
    have hia : i ∉ acc := fun hi => by
      have := (hl i).2 hi
      rw [hgd i hio, this] at h0; cases h0
    refine ih _ _ _ (by simpa using hsz) (fun j => ?_) (List.nodup_cons.2 ⟨hia, hn⟩) (fun j hj => ?_) ?_ (by simp; omega)
    · by_cases e : i = j
      · subst e
        simp [hsz, hio]
      · rw [getD_set_ne false e, hl]
        simp [Ne.symm e]
    · rcases List.mem_cons.1 hj with e | e
      · subst e; exact hio
      · exact hlt j e
    · rw [List.reverse_cons]
      refine hk.snoc fun o' ho' e he hb => ?_
      rw [ho] at ho'; cases ho'
      exact List.mem_reverse.2 ((hl _).1 (hall e he hb))

theorem linearise_spec {ops : Array Oper} (low : ∀ i o, ops[i]? = some o → ∀ e ∈ o.after, Region.binds .any e = true → e.on < i) (t : Nat) :
    (Region.linearise .any ops t).Nodup ∧ (∀ i, i ∈ Region.linearise .any ops t ↔ i < ops.size) ∧ Keeps ops (Region.linearise .any ops t) := by
  refine linearise_go_spec low ops.size t (Array.replicate ops.size false) [] (by simp) (fun i => ?_) List.nodup_nil (fun i hi => by cases hi) (fun pre i post h => by simp at h) (by simp)
  rw [Array.getD_eq_getD_getElem?]
  simp [Array.getElem?_replicate]
  split <;> simp
end Go.Eng

/-! Regions whose order is drawn: plans. No condition. -/
namespace Go.Eng
open Go.RowKit

mutual
theorem avEq_eq : ∀ (a b : AV), avEq a b = true → a = b
  | .bool a, b, h => by cases b <;> simp_all [avEq]
  | .int k a, b, h => by
    cases b <;> try (simp [avEq] at h; done)
    rename_i j b
    cases a <;> cases b <;> simp only [avEq, Bool.and_eq_true, beq_iff_eq, Bool.false_eq_true] at h
    · obtain ⟨rfl, h⟩ := h; rw [Nat.eq_of_beq_eq_true h]
    · obtain ⟨rfl, h⟩ := h; rw [Nat.eq_of_beq_eq_true h]
  | .str a, b, h => by
    cases b <;> try (simp [avEq] at h; done)
    rename_i b
    have : eqNats a b = true := h
    rw [eqNats_eq] at this
    rw [eq_of_beq this]
  | .nilptr, b, h => by cases b <;> simp_all [avEq]
  | .ptr x y, b, h => by
    cases b <;> try (simp [avEq] at h; done)
    simp only [avEq, Bool.and_eq_true] at h
    rw [Nat.eq_of_beq_eq_true h.1, Nat.eq_of_beq_eq_true h.2]
  | .nilslice, b, h => by cases b <;> simp_all [avEq]
  | .slice _ _ _ _ _, b, h => by
    cases b <;> try (simp [avEq] at h; done)
    simp only [avEq, Bool.and_eq_true] at h
    obtain ⟨⟨⟨⟨h1, h2⟩, h3⟩, h4⟩, h5⟩ := h
    rw [Nat.eq_of_beq_eq_true h1, Nat.eq_of_beq_eq_true h2, Nat.eq_of_beq_eq_true h3, Nat.eq_of_beq_eq_true h4, Nat.eq_of_beq_eq_true h5]
  | .nilmap, b, h => by cases b <;> simp_all [avEq]
  | .map _, b, h => by
    cases b <;> try (simp [avEq] at h; done)
    rw [Nat.eq_of_beq_eq_true h]
  | .func f x y, b, h => by
    cases b <;> try (simp [avEq] at h; done)
    simp only [avEq, Bool.and_eq_true] at h
    obtain ⟨⟨h1, h2⟩, h3⟩ := h
    rw [Nat.eq_of_beq_eq_true h1, avEqs_eq _ _ h2, avEqs_eq _ _ h3]
  | .yield _, b, h => by
    cases b <;> try (simp [avEq] at h; done)
    rw [Nat.eq_of_beq_eq_true h]
  | .nilFunc, b, h => by cases b <;> simp_all [avEq]
  | .iface t x, b, h => by
    cases b <;> try (simp [avEq] at h; done)
    simp only [avEq, Bool.and_eq_true] at h
    rw [Nat.eq_of_beq_eq_true h.1, avEq_eq _ _ h.2]
  | .nilIface, b, h => by cases b <;> simp_all [avEq]
  | .agg x, b, h => by
    cases b <;> try (simp [avEq] at h; done)
    simp only [avEq] at h
    rw [avEqs_eq _ _ h]
  | .tuple x, b, h => by
    cases b <;> try (simp [avEq] at h; done)
    simp only [avEq] at h
    rw [avEqs_eq _ _ h]
  | .unk, b, h => by cases b <;> simp_all [avEq]
  | .any, b, h => by cases b <;> simp_all [avEq]
  | .sym _, b, h => by
    cases b <;> try (simp [avEq] at h; done)
    rw [Nat.eq_of_beq_eq_true h]
theorem avEqs_eq : ∀ (a b : List AV), avEqs a b = true → a = b
  | [], b, h => by cases b <;> simp_all [avEqs]
  | x :: l, b, h => by
    cases b with
    | nil => simp [avEqs] at h
    | cons y m =>
      simp only [avEqs, Bool.and_eq_true] at h
      rw [avEq_eq _ _ h.1, avEqs_eq _ _ h.2]
end

theorem allP_spec {f : PD → Bool} : ∀ {l : List PD}, allP f l = true → ∀ d ∈ l, f d = true
  | [], _, d, h => by cases h
  | a :: l, h, d, hd => by
    simp only [allP, Bool.and_eq_true] at h
    rcases List.mem_cons.1 hd with e | e
    · subst e; exact h.1
    · exact allP_spec h.2 d e
theorem memN_iff {d : Nat} : ∀ {l : List Nat}, memN d l = true ↔ d ∈ l
  | [] => by simp [memN]
  | a :: l => by
    simp only [memN, Bool.or_eq_true, List.mem_cons, memN_iff (l := l)]
    constructor
    · rintro (h | h)
      · exact .inl (Nat.eq_of_beq_eq_true h).symm
      · exact .inr h
    · rintro (h | h)
      · subst h; exact .inl (Nat.beq_refl _)
      · exact .inr h
theorem bit_or {x y i : Nat} : bit (Nat.lor x y) i = (bit x i || bit y i) := Nat.testBit_or x y i
theorem bit_pow {i j : Nat} : bit (2 ^ i) j = decide (i = j) := by unfold bit; rw [Nat.testBit_two_pow]
theorem bit_zero {i : Nat} : bit 0 i = false := Nat.zero_testBit i
theorem subM_spec {a b : Nat} (h : subM a b = true) {q : Nat} (hq : bit a q = true) : bit b q = true := by
  have e : a &&& b = a := Nat.eq_of_beq_eq_true h
  have : (a &&& b).testBit q = true := by rw [e]; exact hq
  rw [Nat.testBit_and] at this
  simp only [Bool.and_eq_true] at this
  exact this.2
theorem subM_not {a b : Nat} (h : subM a b = false) : ∃ q, bit a q = true ∧ bit b q = false := by
  apply Classical.byContradiction
  intro hn
  have e : a &&& b = a := Nat.eq_of_testBit_eq fun q => by
    rw [Nat.testBit_and]
    cases ha : a.testBit q with
    | false => rfl
    | true =>
      cases hb : b.testBit q with
      | true => rfl
      | false => exact absurd ⟨q, ha, hb⟩ hn
  have : subM a b = true := by show Nat.beq (a &&& b) a = true; rw [e]; exact Nat.beq_refl _
  rw [this] at h; cases h
theorem bindsA_eq (e : Edge) : bindsA e = Region.binds .any e := by unfold bindsA Region.binds; cases e.ground <;> rfl

theorem ancE_spec {ms : List Nat} {q : Nat} : ∀ {l : List Edge}, bit (ancE ms l) q = true → ∃ e ∈ l, bindsA e = true ∧ (q = e.on ∨ ∃ m, nth ms e.on = some m ∧ bit m q = true)
  | [], h => by rw [show ancE ms [] = 0 from rfl, bit_zero] at h; cases h
  | e :: l, h => by
    unfold ancE at h
    split at h
    · rename_i hb
      rw [bit_or, bit_or, bit_pow] at h
      simp only [Bool.or_eq_true, decide_eq_true_eq] at h
      rcases h with (h | h) | h
      · exact ⟨e, by simp, hb, .inl h.symm⟩
      · cases hm : nth ms e.on with
        | none => rw [hm] at h; simp [orElse0, bit_zero] at h
        | some m => rw [hm] at h; exact ⟨e, by simp, hb, .inr ⟨m, hm, h⟩⟩
      · obtain ⟨e', he', r⟩ := ancE_spec h
        exact ⟨e', by simp [he'], r⟩
    · obtain ⟨e', he', r⟩ := ancE_spec h
      exact ⟨e', by simp [he'], r⟩

/-- What the list of data is. -/
theorem ancL_spec : ∀ (l : List Oper) (i : Nat) (ms : List Nat), ms.length = i → ∀ j d, (ancL l i ms)[j]? = some d →
    d.j = i + j ∧ l[j]? = some d.o ∧ ∃ ms' : List Nat, d.m = ancE ms' d.o.after.toList ∧ ∀ q m, ms'[q]? = some m → ms[q]? = some m ∨ ∃ d', i ≤ q ∧ (ancL l i ms)[q - i]? = some d' ∧ d'.m = m
  | [], i, ms, _, j, d, h => by simp [ancL] at h
  | o :: l, i, ms, hl, j, d, h => by
    unfold ancL at h ⊢
    cases j with
    | zero =>
      simp at h; subst h
      exact ⟨rfl, rfl, ms, rfl, fun q m hq => .inl hq⟩
    | succ j =>
      simp only [List.getElem?_cons_succ] at h
      obtain ⟨h1, h2, ms', h3, h4⟩ := ancL_spec l (i + 1) (ms ++ [ancE ms o.after.toList]) (by simp [hl]) j d h
      refine ⟨by omega, by simpa using h2, ms', h3, fun q m hq => ?_⟩
      rcases h4 q m hq with h | ⟨d', h5, h6, h7⟩
      · rw [List.getElem?_append] at h
        split at h
        · exact .inl h
        · have : q - ms.length = 0 := by
            have := (List.getElem?_eq_some_iff.1 h).1
            simp at this; omega
          rw [this] at h
          simp at h
          refine .inr ⟨⟨i, o, ancE ms o.after.toList⟩, by omega, ?_, h⟩
          have : q - i = 0 := by omega
          rw [this]; rfl
      · refine .inr ⟨d', by omega, ?_, h7⟩
        have : q - i = (q - (i + 1)) + 1 := by omega
        rw [this, List.getElem?_cons_succ]; exact h6
theorem ancL_length : ∀ (l : List Oper) (i : Nat) (ms : List Nat), (ancL l i ms).length = l.length
  | [], _, _ => rfl
  | o :: l, i, ms => by simp [ancL, ancL_length l]

/-- The static facts. -/
structure Plan (E : Env) (ops : Array Oper) (all : List PD) : Prop where
  eq : all = ancL ops.toList 0 []
  low : lowL all = true
  pair : allP (fun a => allP (okPair E ops a) all) all = true

section
variable {E : Env} {ops : Array Oper} {all : List PD} (p : Plan E ops all)
include p
theorem Plan.at {j : Nat} {d : PD} (h : all[j]? = some d) : d.j = j ∧ ops[j]? = some d.o := by
  rw [p.eq] at h
  obtain ⟨h1, h2, _⟩ := ancL_spec _ 0 [] rfl _ _ h
  exact ⟨by omega, by simpa using h2⟩
theorem Plan.mem {d : PD} (h : d ∈ all) : all[d.j]? = some d ∧ ops[d.j]? = some d.o := by
  obtain ⟨j, hj⟩ := List.getElem?_of_mem h
  obtain ⟨h1, h2⟩ := p.at hj
  subst h1
  exact ⟨hj, h2⟩
theorem Plan.inj {d d' : PD} (h : d ∈ all) (h' : d' ∈ all) (e : d.j = d'.j) : d = d' := by
  have h1 := (p.mem h).1
  have h2 := (p.mem h').1
  rw [e, h2] at h1
  cases h1; rfl
theorem Plan.ex {i : Nat} (h : i < ops.size) : ∃ d ∈ all, d.j = i := by
  have hl : i < all.length := by rw [p.eq, ancL_length]; simpa using h
  have hm : all[i]? = some all[i] := List.getElem?_eq_getElem hl
  exact ⟨all[i], List.getElem_mem hl, (p.at hm).1⟩
theorem Plan.lt {d : PD} (h : d ∈ all) : d.j < ops.size := lt_of_get (p.mem h).2
theorem Plan.low' {d : PD} (h : d ∈ all) {e : Edge} (he : e ∈ d.o.after) (hb : bindsA e = true) : e.on < d.j := by
  have key : ∀ {l : List PD}, lowL l = true → d ∈ l → lowE d.j d.o.after.toList = true := by
    intro l
    induction l with
    | nil => intro _ h; cases h
    | cons a l ih =>
      intro hl hd
      simp only [lowL, Bool.and_eq_true] at hl
      rcases List.mem_cons.1 hd with e | e
      · subst e; exact hl.1
      · exact ih hl.2 e
  have key2 : ∀ {l : List Edge}, lowE d.j l = true → e ∈ l → e.on < d.j := by
    intro l
    induction l with
    | nil => intro _ h; cases h
    | cons a l ih =>
      intro hl hd
      simp only [lowE, Bool.and_eq_true, Bool.or_eq_true, Bool.not_eq_true'] at hl
      rcases List.mem_cons.1 hd with e' | e'
      · subst e'
        rcases hl.1 with h | h
        · rw [hb] at h; cases h
        · have : Nat.ble (e.on + 1) d.j = true := h
          exact Nat.le_of_ble_eq_true this
      · exact ih hl.2 e'
  exact key2 (key p.low h) (Array.mem_toList_iff.2 he)
theorem Plan.anc {d : PD} (h : d ∈ all) {q : Nat} (hq : bit d.m q = true) : ∃ e ∈ d.o.after, bindsA e = true ∧ (q = e.on ∨ ∃ d' ∈ all, d'.j = e.on ∧ bit d'.m q = true) := by
  obtain ⟨h1, _⟩ := p.mem h
  rw [p.eq] at h1
  obtain ⟨_, _, ms', hm, hms⟩ := ancL_spec _ 0 [] rfl _ _ h1
  rw [hm] at hq
  obtain ⟨e, he, hb, hq⟩ := ancE_spec hq
  refine ⟨e, Array.mem_toList_iff.1 he, hb, ?_⟩
  rcases hq with hq | ⟨m, hm, hq⟩
  · exact .inl hq
  · rw [nth_eq] at hm
    rcases hms _ _ hm with h | ⟨d', _, h2, h3⟩
    · simp at h
    · rw [← p.eq] at h2
      obtain ⟨h4, _⟩ := p.at h2
      exact .inr ⟨d', List.mem_of_getElem? h2, by omega, by rw [h3]; exact hq⟩
theorem Plan.anc_lt {d : PD} (h : d ∈ all) {q : Nat} (hq : bit d.m q = true) : q < d.j := by
  generalize hn : d.j = n
  induction n using Nat.strongRecOn generalizing d with
  | _ n ih =>
    obtain ⟨e, he, hb, hq⟩ := p.anc h hq
    have hlt := p.low' h he hb
    rcases hq with hq | ⟨d', hd', e', hq⟩
    · omega
    · have := ih e.on (by omega) hd' hq e'
      omega
end

/-- What is left of a drawn order keeps to what comes ahead. -/
structure SchOK (ops : Array Oper) (all : List PD) (sch : List Nat) : Prop where
  nodup : sch.Nodup
  lt : ∀ i ∈ sch, i < ops.size
  ord : ∀ d ∈ all, ∀ q, bit d.m q = true → q ∈ sch → d.j ∈ sch ∧ ∀ pre post, sch = pre ++ d.j :: post → q ∈ pre

theorem SchOK.tail {ops : Array Oper} {all : List PD} {i : Nat} {sch : List Nat} (h : SchOK ops all (i :: sch)) : SchOK ops all sch := by
  refine ⟨(List.nodup_cons.1 h.nodup).2, fun j hj => h.lt j (by simp [hj]), fun d hd q hq hm => ?_⟩
  obtain ⟨h1, h2⟩ := h.ord d hd q hq (by simp [hm])
  have hne : q ≠ i := fun e => (List.nodup_cons.1 h.nodup).1 (e ▸ hm)
  refine ⟨?_, fun pre post e => ?_⟩
  · rcases List.mem_cons.1 h1 with e | e
    · have := h2 [] sch (by simp [e])
      cases this
    · exact e
  · have := h2 (i :: pre) post (by rw [e]; rfl)
    rcases List.mem_cons.1 this with e' | e'
    · exact absurd e' hne
    · exact e'
theorem SchOK.first {ops : Array Oper} {all : List PD} {d : PD} {sch : List Nat} (h : SchOK ops all (d.j :: sch)) (hd : d ∈ all) {q : Nat} (hq : bit d.m q = true) : q ∉ d.j :: sch := fun hm => by
  obtain ⟨_, h2⟩ := h.ord d hd q hq hm
  have := h2 [] sch rfl
  cases this

theorem SchOK.start {E : Env} {ops : Array Oper} {all : List PD} (p : Plan E ops all) (t : Nat) : SchOK ops all (Region.linearise .any ops t) := by
  have low : ∀ i o, ops[i]? = some o → ∀ e ∈ o.after, Region.binds .any e = true → e.on < i := fun i o ho e he hb => by
    obtain ⟨d, hd, rfl⟩ := p.ex (lt_of_get ho)
    have := (p.mem hd).2
    rw [ho] at this; cases this
    exact p.low' hd he (by rw [bindsA_eq]; exact hb)
  obtain ⟨h1, h2, h3⟩ := linearise_spec low t
  refine ⟨h1, fun i hi => (h2 i).1 hi, fun d hd q hq hm => ⟨(h2 _).2 (p.lt hd), ?_⟩⟩
  clear hm
  generalize hn : d.j = n
  induction n using Nat.strongRecOn generalizing d with
  | _ n ih =>
    intro pre post e
    obtain ⟨ed, he, hb, hq'⟩ := p.anc hd hq
    have hin := h3 pre n post e d.o (by rw [← hn]; exact (p.mem hd).2) ed he (by rw [← bindsA_eq]; exact hb)
    rcases hq' with hq' | ⟨d', hd', e', hq'⟩
    · rw [hq']; exact hin
    · obtain ⟨p1, p2, rfl⟩ := List.append_of_mem hin
      have := ih ed.on (by have := p.low' hd he hb; omega) d' hd' hq' e' p1 (p2 ++ n :: post) (by rw [e]; simp)
      simp [this]
end Go.Eng

/-! Regions whose order is drawn: the engine's plan is the machine's run. No condition. -/
namespace Go.Eng
open Go.RowKit

theorem wantedA_congr {ops : Array Oper} {tm tm' : T AV} {o : Oper} (h : ∀ t ∈ guardT ops o, tget tm t = tget tm' t) : wantedA ops tm o = wantedA ops tm' o := by
  unfold wantedA
  unfold guardT at h
  cases hg : o.guard with
  | none => rfl
  | some g =>
    obtain ⟨j, want⟩ := g
    rw [hg] at h
    show wantedG ops tm j want = wantedG ops tm' j want
    unfold wantedG
    split
    · rename_i oj hoj
      simp only [hoj] at h
      split
      · rename_i d hd
        simp only [hd] at h
        rw [h d (by simp)]
      · rfl
    · rfl

/-- It yields, here, what its temporary holds. -/
def OKat (E : Env) (s : St) (ops : Array Oper) (tm : T AV) (d : PD) : Prop :=
  ∃ b, wantedA ops tm d.o = some b ∧ (b = true → ∃ a, aop E tm s d.o.op = some (.val a s) ∧ ∀ t, d.o.dst = some t → tget tm t = a) ∧ (b = false → ∀ t, d.o.dst = some t → tget tm t = undefA)

/-- What an operation has laid ahead of the machine: by its name. -/
def SoftNm (E : Env) (tm : T AV) (d : PD) (x : Nat × Blk) : Prop :=
  ∃ s0 s1 v, aop E tm s0 d.o.op = some (.val v s1) ∧ s0.new x.2 = some (x.1, s1) ∧ ∀ t, d.o.dst = some t → tget tm t = v
def SoftAt (E : Env) (own : List (Nat × (Nat × Blk))) (ops : Array Oper) (tm : T AV) (d : PD) : Prop :=
  ∃ b, wantedA ops tm d.o = some b ∧ (b = true → ∃ x, (d.j, x) ∈ own ∧ SoftNm E tm d x) ∧ (b = false → ∀ t, d.o.dst = some t → tget tm t = undefA)

structure DRw (E : Env) (own : List (Nat × (Nat × Blk))) (so : Option St) (ρ : Rho) (σ : Nat → Value) (ops : Array Oper) (pl : List PI) (tm : T AV) (nt : Nat) (sch : List Nat) (tmps : Array Value)
    (all : List PD) (pn : List PN) (X : Nat) (tmM : T AV) : Prop where
  plan : Plan E ops all
  ok : planOK E all pn X = true
  fill : fill all pn = some pl
  sok : SchOK ops all sch
  tr : TR ρ σ tmM nt tmps
  agree : ∀ t, tget tm t = tget tmM t ∨ ∃ d ∈ all, d.j ∈ sch ∧ bit X d.j = true ∧ d.o.dst = some t
  done : ∀ d ∈ all, d.j ∉ sch → bit X d.j = true
  clos : ∀ d ∈ all, bit X d.j = true → ∀ q, bit d.m q = true → bit X q = true
  wait : ∀ d ∈ all, d.j ∈ sch → bit X d.j = true → ordO E d.o.op = false ∧ (∀ t, d.o.dst = some t → t < nt) ∧ (softO d.o.op = true → SoftAt E own ops tm d) ∧ (softO d.o.op = false → ∀ s, so = some s → d.j ∈ lead pn ∨ OKat E s ops tm d)
  held : ∀ y ∈ own, ∃ d ∈ all, d.j = y.1 ∧ d.j ∈ sch ∧ bit X d.j = true ∧ softO d.o.op = true ∧ wantedA ops tm d.o = some true
  heldn : (own.map (·.1)).Nodup

section
variable {E : Env} {B : Base} {ρ ρ' : Rho} {σ : Nat → Value} {s s' : St} {w w' : World} {tm tm' tmM : T AV} {r : Res}
variable {own : List (Nat × (Nat × Blk))} {b0 : Nat → Prop} {q : List (List (Nat × Blk))} {ops : Array Oper} {pl : List PI} {nt : Nat} {sch : List Nat} {tmps : Array Value} {all : List PD} {pn : List PN} {X : Nat} {so : Option St}

/-- An operation's reads are the machine's, where nothing that it looks at waits. -/
theorem DRw.reads (D : DRw E own so ρ σ ops pl tm nt sch tmps all pn X tmM) {d : PD} (hd : d ∈ all) (hself : ordO E d.o.op = false ∨ bit X d.j = false) (hfirst : ∀ q, bit d.m q = true → q ∉ sch) :
    ∀ t ∈ readsO ops d.o, tget tm t = tget tmM t := by
  intro t ht
  rcases D.agree t with h | ⟨d', hd', hs', hX', ht'⟩
  · exact h
  · exfalso
    have hp := allP_spec (allP_spec D.plan.pair d hd) d' hd'
    unfold okPair at hp
    rw [ht'] at hp
    have hm : memN t (readsO ops d.o) = true := memN_iff.2 ht
    simp only at hp
    split at hp
    · rename_i he
      have e : d.j = d'.j := Nat.eq_of_beq_eq_true he
      have := D.plan.inj hd hd' e
      subst this
      rcases hself with h | h
      · simp [h, hm] at hp
      · rw [h] at hX'; cases hX'
    · simp only [hm, Bool.true_or, Bool.not_true, Bool.false_or, Bool.or_eq_true, Bool.and_eq_true] at hp
      rcases hp with hp | ⟨hp, _⟩
      · exact hfirst _ hp hs'
      · rw [(D.wait d' hd' hs' hX').1] at hp; cases hp

theorem reads_alike {o : Oper} (h : ∀ t ∈ readsO ops o, tget tm t = tget tm' t) : Alike tm tm' o.op.operands.toList ∧ wantedA ops tm o = wantedA ops tm' o :=
  ⟨Alike.of fun t ht => h t (by unfold readsO; simp [ht]), wantedA_congr fun t ht => h t (by unfold readsO; simp [ht])⟩

noncomputable def putD (tm : T AV) (d : Option Tmp) (a : AV) : T AV := match d with | some t => tm.put t a | none => tm
theorem putD_of {d : Option Tmp} {a : AV} (h : putT tm nt d a = some tm') : tm' = putD tm d a ∧ ∀ t, d = some t → t < nt := by
  unfold putT at h
  cases d with
  | none => cases h; exact ⟨rfl, fun t ht => by cases ht⟩
  | some d =>
    cases hb : Nat.blt d nt with
    | false => simp [hb] at h
    | true =>
      simp [hb] at h
      refine ⟨h.symm, fun t ht => ?_⟩
      cases ht
      have : Nat.ble (d + 1) nt = true := hb
      exact Nat.le_of_ble_eq_true this
theorem putT_of {d : Option Tmp} {a : AV} (h : ∀ t, d = some t → t < nt) : putT tm nt d a = some (putD tm d a) := by
  unfold putT putD
  cases d with
  | none => rfl
  | some d =>
    have hb : Nat.blt d nt = true := by show Nat.ble (d + 1) nt = true; exact Nat.ble_eq_true_of_le (h d rfl)
    simp [hb]
theorem tget_putD {d : Option Tmp} {a : AV} (h : ∀ t, d = some t → t < T.most + 1) (t : Nat) : tget (putD tm d a) t = if d = some t then a else tget tm t := by
  unfold putD
  cases d with
  | none => simp
  | some d =>
    rw [tget_def, T.get_put tm d a (h d rfl), tget_def]
    by_cases e : d = t
    · simp [e]
    · simp [e]

theorem own_split {own : List (Nat × (Nat × Blk))} {j : Nat} {x : Nat × Blk} (h : (j, x) ∈ own) : ∃ o1 o2, own = o1 ++ (j, x) :: o2 := List.append_of_mem h

/-- The base of a frame whose region is under way. -/
def bas (b0 : Nat → Prop) (own : List (Nat × (Nat × Blk))) (q : List (List (Nat × Blk))) : Base := ⟨b0, own.map (·.2) :: q⟩

/-- What is left to say once the machine has made its step. -/
theorem DRw.stepped {a : Act} {d : PD} (D : DRw E own (some s) ρ σ ops pl tm nt (d.j :: sch) a.tmps all pn X tmM) (hd : d ∈ all) (hX : bit X d.j = true) (hlt : ∀ t, d.o.dst = some t → t < nt) {own' : List (Nat × (Nat × Blk))} {u : Value} {x : AV} (hρ : Ext ρ ρ') (hu : VR ρ' σ x u)
    (hx : ∀ t, d.o.dst = some t → tget tm t = x) (hsub : ∀ y ∈ own, y.1 ≠ d.j → y ∈ own') (hsup : ∀ y ∈ own', y ∈ own ∧ y.1 ≠ d.j) (hnd : (own'.map (·.1)).Nodup) :
    DRw E own' (some s) ρ' σ ops pl tm nt sch (a.put d.o.dst u).tmps all pn X (putD tmM d.o.dst x) := by
  have hmost : ∀ t, d.o.dst = some t → t < T.most + 1 := fun t ht => Nat.lt_succ_of_le (Nat.le_trans (Nat.le_of_lt (hlt t ht)) D.tr.most)
  refine ⟨D.plan, D.ok, D.fill, D.sok.tail, putT_ok' hρ D.tr (putT_of hlt) hu, fun t => ?_, fun d' hd' hn => ?_, D.clos, fun d' hd' hs hX' => ?_, fun y hy => ?_, hnd⟩
  · rw [tget_putD hmost]
    by_cases e : d.o.dst = some t
    · rw [if_pos e]; exact .inl (hx t e)
    · rw [if_neg e]
      rcases D.agree t with h | ⟨d', hd', hs', hX', ht'⟩
      · exact .inl h
      · rcases List.mem_cons.1 hs' with e' | e'
        · have := D.plan.inj hd' hd e'
          subst this
          exact absurd ht' e
        · exact .inr ⟨d', hd', e', hX', ht'⟩
  · by_cases e : d'.j = d.j
    · rw [e]; exact hX
    · exact D.done d' hd' (by simp [e, hn])
  · obtain ⟨h1, h2, h3, h4⟩ := D.wait d' hd' (by simp [hs]) hX'
    have hne : d'.j ≠ d.j := fun e => (List.nodup_cons.1 D.sok.nodup).1 (by rw [← e]; exact hs)
    refine ⟨h1, h2, fun hs' => ?_, h4⟩
    obtain ⟨b, g1, g2, g3⟩ := h3 hs'
    exact ⟨b, g1, fun e => by
      obtain ⟨x, hx1, hx2⟩ := g2 e
      exact ⟨x, hsub _ hx1 hne, hx2⟩, g3⟩
  · obtain ⟨h1, h2⟩ := hsup y hy
    obtain ⟨d', hd', e, h3, h4⟩ := D.held y h1
    rcases List.mem_cons.1 h3 with e' | e'
    · exact absurd (e.symm.trans e') h2
    · exact ⟨d', hd', e, e', h4⟩

/-- The machine runs its first operation, which the plan has run. -/
theorem DRw.run1 (ok : EnvS E σ) (hv : Hold E.V b0 w) {b : Frame} {k : List Item} {cs : List Frame} {a : Act} {i : Nat} (D : DRw E own (some s) ρ σ ops pl tm nt (i :: sch) a.tmps all pn X tmM) (h : R (bas b0 own q) ρ σ s w)
    {d : PD} (hd : d ∈ all) (hi : d.j = i) (hX : bit X i = true) (hok : softO d.o.op = false → OKat E s ops tm d) :
    ∃ own' ρ' a' w' tmM', Ext ρ ρ' ∧ Steps E.P (lone (b.atR a (.inRegion ops (i :: sch) :: k)) cs w) (lone (b.atR a' (.inRegion ops sch :: k)) cs w') ∧ Kept b0 w w' ∧ R (bas b0 own' q) ρ' σ s w' ∧
      DRw E own' (some s) ρ' σ ops pl tm nt sch a'.tmps all pn X tmM' ∧ a'.defers = a.defers := by
  subst hi
  obtain ⟨hno, hlt, hsoft, _⟩ := D.wait d hd (by simp) hX
  have hrd := D.reads hd (.inl hno) fun q hq => D.sok.first hd hq
  obtain ⟨hal, hwc⟩ := reads_alike hrd
  have ho := (D.plan.mem hd).2
  have he := Act.evOK h D.tr
  -- an operation that holds no block leaves the others' as they are
  have keep : (softO d.o.op = true → wantedA ops tm d.o ≠ some true) → (∀ y ∈ own, y.1 ≠ d.j → y ∈ own) ∧ (∀ y ∈ own, y ∈ own ∧ y.1 ≠ d.j) := fun hno' =>
    ⟨fun y hy _ => hy, fun y hy => ⟨hy, fun e => by
      obtain ⟨d', hd', e', _, _, hs', hw'⟩ := D.held y hy
      have := D.plan.inj hd' hd (e'.trans e)
      subst this
      exact hno' hs' hw'⟩⟩
  cases hs : softO d.o.op with
  | true =>
    obtain ⟨wb, hwa, hT, hF⟩ := hsoft hs
    have hw := wantedA_ok D.tr (hwc ▸ hwa)
    cases wb with
    | true =>
      obtain ⟨x, hx, s0, s1, v, hop, hnew, hdst⟩ := hT rfl
      rw [aopT_congr hal] at hop
      obtain ⟨b', k', hv, hnew', hS⟩ := soft_of ok.ok hs hop
      obtain ⟨e1, _, _, g1, _⟩ := St.new_eq hnew
      obtain ⟨_, _, _, g2, _⟩ := St.new_eq hnew'
      have hb : b' = x.2 := by
        have h1 := g1 s0.next
        have h2 := g2 s0.next
        rw [if_pos e1] at h1
        rw [if_pos rfl, h1] at h2
        cases h2; rfl
      subst hb
      obtain ⟨u, ob, w', e, hrun, hnw, hbo, hvr⟩ := hS ρ σ a.eval w he
      obtain ⟨o1, o2, hsp⟩ := own_split hx
      have hR : R ⟨b0, (o1.map (·.2) ++ (x.1, x.2) :: o2.map (·.2)) :: q⟩ ρ σ s w := by
        have : bas b0 own q = ⟨b0, (o1.map (·.2) ++ (x.1, x.2) :: o2.map (·.2)) :: q⟩ := by unfold bas; rw [hsp]; simp
        rw [← this]; exact h
      obtain ⟨hρ, hR'⟩ := R.vdel (B := ⟨b0, []⟩) hR hnw hbo
      have hnd := D.heldn
      rw [hsp, List.map_append, List.map_cons] at hnd
      have hmid := List.nodup_cons.1 ((List.perm_middle (l₁ := o1.map (·.1))).nodup_iff.1 hnd)
      have hse : d.o.semAt b.roundOf a.eval = execOp a.eval d.o := Oper.semAt_eq _ _ _ (not_defer hop)
      refine ⟨o1 ++ o2, _, _, w', _, hρ, .one (stepR_value ho hw (by rw [hse]; exact hrun)), hnw.below h.size, ?_,
        D.stepped hd hX hlt (own' := o1 ++ o2) (u := u) (x := v) hρ ?_ hdst (fun y hy hne => ?_) (fun y hy => ?_) (by rw [List.map_append]; exact hmid.2), Act.put_tail _ _ _⟩
      · have : bas b0 (o1 ++ o2) q = ⟨b0, (o1.map (·.2) ++ o2.map (·.2)) :: q⟩ := by unfold bas; simp
        rw [this]; exact hR'
      · rw [hv, ← e1]
        exact hvr _ x.1 hρ (Rho.set_same _ _ _)
      · rw [hsp] at hy
        simp only [List.mem_append, List.mem_cons] at hy ⊢
        rcases hy with h1 | h1 | h1
        · exact .inl h1
        · rw [h1] at hne; exact absurd rfl hne
        · exact .inr h1
      · refine ⟨by rw [hsp]; simp only [List.mem_append, List.mem_cons] at hy ⊢; rcases hy with h1 | h1 <;> simp [h1], fun e' => hmid.1 ?_⟩
        rw [← List.map_append, ← e']
        exact List.mem_map.2 ⟨y, hy, rfl⟩
    | false =>
      obtain ⟨k1, k2⟩ := keep fun _ e => by rw [hwa] at e; cases e
      exact ⟨own, ρ, _, w, _, Ext.refl _, .one (stepR_unwanted ho hw), Kept.refl _ _, h, D.stepped hd hX hlt (Ext.refl _) VR_undef (hF rfl) k1 k2 D.heldn, Act.put_tail _ _ _⟩
  | false =>
    obtain ⟨bw, hwa, hT, hF⟩ := hok hs
    have hw := wantedA_ok D.tr (hwc ▸ hwa)
    obtain ⟨k1, k2⟩ := keep fun e => by rw [hs] at e; cases e
    cases bw with
    | true =>
      obtain ⟨x, hxa, hxt⟩ := hT rfl
      rw [aopT_congr hal] at hxa
      obtain ⟨ρ', u, w', hρ, hst, hB, hR, hu⟩ := opval_ok ok hv.now (b := b) (k := k) (cs := cs) (rest := sch) h D.tr ho hw hxa
      exact ⟨own, ρ', _, w', _, hρ, hst, hB, hR, D.stepped hd hX hlt hρ hu hxt k1 k2 D.heldn, Act.put_tail _ _ _⟩
    | false =>
      exact ⟨own, ρ, _, w, _, Ext.refl _, .one (stepR_unwanted ho hw), Kept.refl _ _, h, D.stepped hd hX hlt (Ext.refl _) VR_undef (hF rfl) k1 k2 D.heldn, Act.put_tail _ _ _⟩

theorem planOK_op {j : Nat} (h : planOK E all (.op j :: pn) X = true) : ∃ d, nth all j = some d ∧ bit X j = false ∧ subM d.m X = true ∧ (ordO E d.o.op = true → ∀ a ∈ all, atOrd E d pn X a = true) ∧ (softO d.o.op = true → ∀ a ∈ all, atSoft E pn X a = true) ∧ planOK E all pn (Nat.lor X (2 ^ j)) = true := by
  unfold planOK at h
  split at h
  · rename_i d hd
    simp only [Bool.and_eq_true, Bool.not_eq_true', Bool.or_eq_true] at h
    obtain ⟨⟨⟨⟨h1, h2⟩, h3⟩, h5⟩, h4⟩ := h
    refine ⟨d, hd, h1, h2, fun ho a ha => ?_, fun ho a ha => ?_, h4⟩
    · rcases h3 with h3 | h3
      · rw [ho] at h3; cases h3
      · exact allP_spec h3 a ha
    · rcases h5 with h5 | h5
      · rw [ho] at h5; cases h5
      · exact allP_spec h5 a ha
  · cases h

theorem Plan.nth (p : Plan E ops all) {j : Nat} {d : PD} (h : nth all j = some d) : d ∈ all ∧ d.j = j := by
  rw [nth_eq] at h
  exact ⟨List.mem_of_getElem? h, (p.at h).1⟩

/-- Where the plan's next operation is one whose place is settled, the machine comes to it. -/
theorem DRw.catch (ok : EnvS E σ) {b : Frame} {k : List Item} {cs : List Frame} {j : Nat} {d : PD} (hj : nth all j = some d) (ho : ordO E d.o.op = true) : ∀ (sch : List Nat) (own : List (Nat × (Nat × Blk))) (a : Act) (ρ : Rho) (w : World) (tmM : T AV), Hold E.V b0 w →
    DRw E own (some s) ρ σ ops pl tm nt sch a.tmps all (.op j :: pn) X tmM → R (bas b0 own q) ρ σ s w →
    ∃ sch' own' ρ' a' w' tmM', Ext ρ ρ' ∧ Steps E.P (lone (b.atR a (.inRegion ops sch :: k)) cs w) (lone (b.atR a' (.inRegion ops (j :: sch') :: k)) cs w') ∧ Kept b0 w w' ∧ R (bas b0 own' q) ρ' σ s w' ∧
      DRw E own' (some s) ρ' σ ops pl tm nt (j :: sch') a'.tmps all (.op j :: pn) X tmM' ∧ a'.defers = a.defers
  | [], own, a, ρ, w, tmM, _, D, h => by
    obtain ⟨d', hd', hX, _⟩ := planOK_op D.ok
    rw [hj] at hd'; cases hd'
    obtain ⟨hm, rfl⟩ := D.plan.nth hj
    rw [D.done d hm (by simp)] at hX; cases hX
  | i :: sch, own, a, ρ, w, tmM, hv, D, h => by
    by_cases e : i = j
    · subst e
      exact ⟨sch, own, ρ, a, w, tmM, Ext.refl _, .refl _ _, Kept.refl _ _, h, D, rfl⟩
    · obtain ⟨d', hd', hX, hsub, hat, _, _⟩ := planOK_op D.ok
      rw [hj] at hd'; cases hd'
      obtain ⟨hm, hdj⟩ := D.plan.nth hj
      obtain ⟨di, hdi, rfl⟩ := D.plan.ex (D.sok.lt i (by simp))
      have hjs : j ∈ di.j :: sch := by
        rcases Classical.em (j ∈ di.j :: sch) with h | h
        · exact h
        · rw [← hdj] at h; rw [← hdj, D.done d hm h] at hX; cases hX
      -- the first one has been run by the plan
      have hXi : bit X di.j = true := by
        cases hb : bit X di.j with
        | true => rfl
        | false =>
          exfalso
          have ha := hat ho di hdi
          unfold atOrd at ha
          rw [hb] at ha
          simp only [Bool.or_eq_true] at ha
          rcases ha with ha | ha
          · exact e ((Nat.eq_of_beq_eq_true ha).trans hdj)
          · split at ha
            · rw [hdj] at ha
              exact D.sok.first hdi ha hjs
            · simp only [Bool.not_eq_true'] at ha
              obtain ⟨q, hq1, hq2⟩ := subM_not ha
              have hql := D.plan.anc_lt hdi hq1
              obtain ⟨dq, hdq, rfl⟩ := D.plan.ex (i := q) (by have := D.plan.lt hdi; omega)
              rcases Classical.em (dq.j ∈ di.j :: sch) with h | h
              · exact D.sok.first hdi hq1 h
              · rw [D.done dq hdq h] at hq2; cases hq2
      have hok : softO di.o.op = false → OKat E s ops tm di := fun hso => by
        rcases (D.wait di hdi (by simp) hXi).2.2.2 hso s rfl with h | h
        · cases h
        · exact h
      obtain ⟨own1, ρ1, a1, w1, tm1, hρ, hs, hB, hR, D1, hdf⟩ := D.run1 ok hv (b := b) (k := k) (cs := cs) h hdi rfl hXi hok
      obtain ⟨sch', own2, ρ2, a2, w2, tm2, hρ2, hs2, hB2, hR2, D2, hdf2⟩ := DRw.catch ok hj ho sch own1 a1 ρ1 w1 tm1 (hv.kept hB) D1 hR
      exact ⟨sch', own2, ρ2, a2, w2, tm2, hρ.trans hρ2, hs.trans hs2, hB.trans hB2, hR2, D2, hdf2.trans hdf⟩

/-- At the plan's end the machine comes to the region's end. -/
theorem DRw.end (ok : EnvS E σ) {b : Frame} {k : List Item} {cs : List Frame} : ∀ (sch : List Nat) (own : List (Nat × (Nat × Blk))) (a : Act) (ρ : Rho) (w : World) (tmM : T AV), Hold E.V b0 w →
    DRw E own (some s) ρ σ ops pl tm nt sch a.tmps all [] X tmM → R (bas b0 own q) ρ σ s w →
    ∃ ρ' a' w', Ext ρ ρ' ∧ Steps E.P (lone (b.atR a (.inRegion ops sch :: k)) cs w) (lone (b.atR a' k) cs w') ∧ Kept b0 w w' ∧ R (bas b0 [] q) ρ' σ s w' ∧ TR ρ' σ tm nt a'.tmps ∧ a'.defers = a.defers
  | [], own, a, ρ, w, tmM, _, D, h => by
    have hown : own = [] := by
      cases own with
      | nil => rfl
      | cons y l =>
        obtain ⟨_, _, _, hs, _⟩ := D.held y (by simp)
        cases hs
    subst hown
    refine ⟨ρ, a, w, Ext.refl _, .one stepR_region_end, Kept.refl _ _, h, ⟨D.tr.size, D.tr.most, fun t => ?_⟩, rfl⟩
    rcases D.agree t with e | ⟨_, _, hs, _⟩
    · rw [e]; exact D.tr.vals t
    · cases hs
  | i :: sch, own, a, ρ, w, tmM, hv, D, h => by
    obtain ⟨di, hdi, rfl⟩ := D.plan.ex (D.sok.lt i (by simp))
    have hXi : bit X di.j = true := by
      have := D.ok
      unfold planOK at this
      exact allP_spec this di hdi
    have hok : softO di.o.op = false → OKat E s ops tm di := fun hso => by
      rcases (D.wait di hdi (by simp) hXi).2.2.2 hso s rfl with h | h
      · cases h
      · exact h
    obtain ⟨own1, ρ1, a1, w1, tm1, hρ, hs, hB, hR, D1, hdf⟩ := D.run1 ok hv (b := b) (k := k) (cs := cs) h hdi rfl hXi hok
    obtain ⟨ρ2, a2, w2, hρ2, hs2, hB2, hR2, ht, hdf2⟩ := DRw.end ok sch own1 a1 ρ1 w1 tm1 (hv.kept hB) D1 hR
    exact ⟨ρ2, a2, w2, hρ.trans hρ2, hs.trans hs2, hB.trans hB2, hR2, ht, hdf2.trans hdf⟩
end
end Go.Eng

/-! Regions whose order is drawn: the plan's steps. No condition. -/
namespace Go.Eng
open Go.RowKit

theorem ordO_pure {E : Env} {o : Op} (h : ordO E o = false) (hs : softO o = false) : pureO E o = true := by
  cases o <;> simp_all [ordO]

section
variable {E : Env} {B : Base} {ρ ρ' : Rho} {σ : Nat → Value} {s s' : St} {w w' : World} {tm tm' tmM : T AV} {r : Res}
variable {own : List (Nat × (Nat × Blk))} {ops : Array Oper} {pl : List PI} {nt : Nat} {sch : List Nat} {tmps : Array Value} {all : List PD} {pn : List PN} {X : Nat} {so : Option St}

theorem fill_op {j : Nat} {d : PD} (hj : nth all j = some d) (h : fill all (.op j :: pn) = some pl) : ∃ rest, pl = .op d.o :: rest ∧ fill all pn = some rest := by
  unfold fill at h
  rw [hj] at h
  simp only at h
  split at h
  · rename_i r hr; cases h; exact ⟨r, rfl, hr⟩
  · cases h
theorem fill_chk {j : Nat} {d : PD} (hj : nth all j = some d) (h : fill all (.chk j :: pn) = some pl) : ∃ rest, pl = .chk d.o :: rest ∧ fill all pn = some rest := by
  unfold fill at h
  rw [hj] at h
  simp only at h
  split at h
  · rename_i r hr; cases h; exact ⟨r, rfl, hr⟩
  · cases h

/-- What waits does not meet what is run now. -/
theorem DRw.apart (D : DRw E own so ρ σ ops pl tm nt sch tmps all pn X tmM) {d d2 : PD} (hd : d ∈ all) (hX : bit X d.j = false) (hd2 : d2 ∈ all) (hX2 : bit X d2.j = true) (hno : ordO E d.o.op = true → bit d.m d2.j = false) :
    ∀ t, d.o.dst = some t → t ∉ readsO ops d2.o ∧ d2.o.dst ≠ some t := by
  intro t ht
  have hp := allP_spec (allP_spec D.plan.pair d2 hd2) d hd
  unfold okPair at hp
  rw [ht] at hp
  simp only at hp
  split at hp
  · rename_i he
    have e : d2.j = d.j := Nat.eq_of_beq_eq_true he
    rw [e, hX] at hX2; cases hX2
  · simp only [Bool.or_eq_true, Bool.and_eq_true, Bool.not_eq_true', Bool.or_eq_false_iff] at hp
    rcases hp with (⟨h1, h2⟩ | hp) | ⟨h1, h2⟩
    · refine ⟨fun hm => ?_, fun e => ?_⟩
      · rw [memN_iff.2 hm] at h1; cases h1
      · unfold isDst at h2; rw [e] at h2; simp at h2
    · have := D.clos d2 hd2 hX2 _ hp
      rw [hX] at this; cases this
    · rw [hno h1] at h2; cases h2

theorem OKat.put {d d2 : PD} {x : AV} (hmost : ∀ t, d.o.dst = some t → t < T.most + 1) (h : OKat E s ops tm d2) (ha : ∀ t, d.o.dst = some t → t ∉ readsO ops d2.o ∧ d2.o.dst ≠ some t) : OKat E s ops (putD tm d.o.dst x) d2 := by
  have e1 : ∀ t, t ∈ readsO ops d2.o → tget (putD tm d.o.dst x) t = tget tm t := fun t ht => by
    rw [tget_putD hmost, if_neg (fun e => (ha t e).1 ht)]
  have e2 : ∀ t, d2.o.dst = some t → tget (putD tm d.o.dst x) t = tget tm t := fun t ht => by
    rw [tget_putD hmost, if_neg (fun e => (ha t e).2 ht)]
  obtain ⟨hal, hwc⟩ := reads_alike e1
  obtain ⟨b, h1, h2, h3⟩ := h
  refine ⟨b, by rw [hwc]; exact h1, fun hb => ?_, fun hb t ht => by rw [e2 t ht]; exact h3 hb t ht⟩
  obtain ⟨a, h4, h5⟩ := h2 hb
  exact ⟨a, by rw [aopT_congr hal]; exact h4, fun t ht => by rw [e2 t ht]; exact h5 t ht⟩

theorem wanted_put {d d2 : PD} {x : AV} (hmost : ∀ t, d.o.dst = some t → t < T.most + 1) (ha : ∀ t, d.o.dst = some t → t ∉ readsO ops d2.o) : wantedA ops (putD tm d.o.dst x) d2.o = wantedA ops tm d2.o :=
  (reads_alike fun t ht => by rw [tget_putD hmost, if_neg (fun e => ha t e ht)]).2

theorem SoftAt.put {own' : List (Nat × (Nat × Blk))} {d d2 : PD} {x : AV} (hmost : ∀ t, d.o.dst = some t → t < T.most + 1) (h : SoftAt E own ops tm d2) (hown : ∀ y ∈ own, y ∈ own') (ha : ∀ t, d.o.dst = some t → t ∉ readsO ops d2.o ∧ d2.o.dst ≠ some t) :
    SoftAt E own' ops (putD tm d.o.dst x) d2 := by
  have e1 : ∀ t, t ∈ readsO ops d2.o → tget (putD tm d.o.dst x) t = tget tm t := fun t ht => by
    rw [tget_putD hmost, if_neg (fun e => (ha t e).1 ht)]
  have e2 : ∀ t, d2.o.dst = some t → tget (putD tm d.o.dst x) t = tget tm t := fun t ht => by
    rw [tget_putD hmost, if_neg (fun e => (ha t e).2 ht)]
  obtain ⟨hal, hwc⟩ := reads_alike e1
  obtain ⟨b, h1, h2, h3⟩ := h
  refine ⟨b, by rw [hwc]; exact h1, fun hb => ?_, fun hb t ht => by rw [e2 t ht]; exact h3 hb t ht⟩
  obtain ⟨y, hy, s0, s1, v, g1, g2, g3⟩ := h2 hb
  exact ⟨y, hown _ hy, s0, s1, v, by rw [aopT_congr hal]; exact g1, g2, fun t ht => by rw [e2 t ht]; exact g3 t ht⟩

theorem DRw.self {d : PD} (p : Plan E ops all) (hd : d ∈ all) (ho : ordO E d.o.op = false) : ∀ t, d.o.dst = some t → t ∉ readsO ops d.o := by
  intro t ht hm
  have hp := allP_spec (allP_spec p.pair d hd) d hd
  unfold okPair at hp
  rw [ht] at hp
  simp [ho, memN_iff.2 hm] at hp

/-- The plan runs what only yields: the machine waits. -/
theorem DRw.early {j : Nat} {d : PD} (D : DRw E own (some s) ρ σ ops pl tm nt sch tmps all (.op j :: pn) X tmM) (hj : nth all j = some d) (ho : ordO E d.o.op = false) {x : AV}
    (hx : (softO d.o.op = false ∧ wantedA ops tm d.o = some true ∧ aop E tm s d.o.op = some (.val x s)) ∨ (wantedA ops tm d.o = some false ∧ x = undefA)) (hput : putT tm nt d.o.dst x = some tm') :
    ∃ rest, pl = .op d.o :: rest ∧ DRw E own (some s) ρ σ ops rest tm' nt sch tmps all pn (Nat.lor X (2 ^ j)) tmM := by
  obtain ⟨hd, hdj⟩ := D.plan.nth hj
  subst hdj
  obtain ⟨d', hd', hX, hsub, _, _, hok⟩ := planOK_op D.ok
  rw [hj] at hd'; cases hd'
  obtain ⟨rest, hpl, hfill⟩ := fill_op hj D.fill
  obtain ⟨rfl, hlt⟩ := putD_of hput
  have hmost : ∀ t, d.o.dst = some t → t < T.most + 1 := fun t ht => Nat.lt_succ_of_le (Nat.le_trans (Nat.le_of_lt (hlt t ht)) D.tr.most)
  have hsch : d.j ∈ sch := by
    rcases Classical.em (d.j ∈ sch) with h | h
    · exact h
    · rw [D.done d hd h] at hX; cases hX
  have hself := DRw.self D.plan hd ho
  have up : ∀ q, bit X q = true → bit (Nat.lor X (2 ^ d.j)) q = true := fun q h => by rw [bit_or, h]; rfl
  have down : ∀ q, bit (Nat.lor X (2 ^ d.j)) q = true → bit X q = true ∨ q = d.j := fun q h => by
    rw [bit_or, bit_pow] at h
    simp only [Bool.or_eq_true, decide_eq_true_eq] at h
    rcases h with h | h
    · exact .inl h
    · exact .inr h.symm
  have here : bit (Nat.lor X (2 ^ d.j)) d.j = true := by rw [bit_or, bit_pow]; simp
  refine ⟨rest, hpl, D.plan, hok, hfill, D.sok, D.tr, fun t => ?_, fun d2 hd2 hn => up _ (D.done d2 hd2 hn), fun d2 hd2 hX2 q hq => ?_, fun d2 hd2 hs2 hX2 => ?_, fun y hy => ?_, D.heldn⟩
  · rw [tget_putD hmost]
    by_cases e : d.o.dst = some t
    · exact .inr ⟨d, hd, hsch, here, e⟩
    · rw [if_neg e]
      rcases D.agree t with h | ⟨d2, h1, h2, h3, h4⟩
      · exact .inl h
      · exact .inr ⟨d2, h1, h2, up _ h3, h4⟩
  · rcases down _ hX2 with h | h
    · exact up _ (D.clos d2 hd2 h q hq)
    · have := D.plan.inj hd2 hd h
      subst this
      exact up _ (subM_spec hsub hq)
  · rcases down _ hX2 with h | h
    · obtain ⟨h1, h2, h3, h4⟩ := D.wait d2 hd2 hs2 h
      have hap := D.apart hd hX hd2 h (fun e => by rw [ho] at e; cases e)
      refine ⟨h1, h2, fun hso => (h3 hso).put hmost (fun _ hy => hy) hap, fun hso s' hs' => .inr ?_⟩
      rcases h4 hso s' hs' with h5 | h5
      · cases h5
      · exact h5.put hmost hap
    · have := D.plan.inj hd2 hd h
      subst this
      have e1 : ∀ t, t ∈ readsO ops d2.o → tget (putD tm d2.o.dst x) t = tget tm t := fun t ht => by
        rw [tget_putD hmost, if_neg (fun e => hself t e ht)]
      obtain ⟨hal, hwc⟩ := reads_alike e1
      refine ⟨ho, hlt, fun hso => ?_, fun hso s' hs' => .inr ?_⟩
      · rcases hx with ⟨hns, _⟩ | ⟨hw, rfl⟩
        · rw [hso] at hns; cases hns
        · exact ⟨false, by rw [hwc]; exact hw, fun e => Bool.noConfusion e, fun _ t ht => by rw [tget_putD hmost, if_pos ht]⟩
      · cases hs'
        rcases hx with ⟨_, hw, hx⟩ | ⟨hw, rfl⟩
        · exact ⟨true, by rw [hwc]; exact hw, fun _ => ⟨x, by rw [aopT_congr hal]; exact hx, fun t ht => by rw [tget_putD hmost, if_pos ht]⟩, fun e => by cases e⟩
        · exact ⟨false, by rw [hwc]; exact hw, fun e => Bool.noConfusion e, fun _ t ht => by rw [tget_putD hmost, if_pos ht]⟩
  · obtain ⟨d', hd', e, h1, h2, h3, h4⟩ := D.held y hy
    exact ⟨d', hd', e, h1, up _ h2, h3, by rw [wanted_put hmost fun t ht => (D.apart hd hX hd' h2 (fun e => by rw [ho] at e; cases e) t ht).1]; exact h4⟩

/-- The plan lays a fresh block: the machine will. -/
theorem DRw.lay {j : Nat} {d : PD} (D : DRw E own (some s) ρ σ ops pl tm nt sch tmps all (.op j :: pn) X tmM) (hj : nth all j = some d) (ho : ordO E d.o.op = false) (hso : softO d.o.op = true) {x : AV} {b : Blk}
    (hw : wantedA ops tm d.o = some true) (hx : aop E tm s d.o.op = some (.val x s')) (hn : s.new b = some (s.next, s')) (hput : putT tm nt d.o.dst x = some tm') :
    ∃ rest, pl = .op d.o :: rest ∧ DRw E ((d.j, (s.next, b)) :: own) (some s') ρ σ ops rest tm' nt sch tmps all pn (Nat.lor X (2 ^ j)) tmM := by
  obtain ⟨hd, hdj⟩ := D.plan.nth hj
  subst hdj
  obtain ⟨d', hd', hX, hsub, _, hat, hok⟩ := planOK_op D.ok
  rw [hj] at hd'; cases hd'
  obtain ⟨rest, hpl, hfill⟩ := fill_op hj D.fill
  obtain ⟨rfl, hlt⟩ := putD_of hput
  have hmost : ∀ t, d.o.dst = some t → t < T.most + 1 := fun t ht => Nat.lt_succ_of_le (Nat.le_trans (Nat.le_of_lt (hlt t ht)) D.tr.most)
  have hsch : d.j ∈ sch := by
    rcases Classical.em (d.j ∈ sch) with h | h
    · exact h
    · rw [D.done d hd h] at hX; cases hX
  have hself := DRw.self D.plan hd ho
  have up : ∀ q, bit X q = true → bit (Nat.lor X (2 ^ d.j)) q = true := fun q h => by rw [bit_or, h]; rfl
  have down : ∀ q, bit (Nat.lor X (2 ^ d.j)) q = true → bit X q = true ∨ q = d.j := fun q h => by
    rw [bit_or, bit_pow] at h
    simp only [Bool.or_eq_true, decide_eq_true_eq] at h
    rcases h with h | h
    · exact .inl h
    · exact .inr h.symm
  have here : bit (Nat.lor X (2 ^ d.j)) d.j = true := by rw [bit_or, bit_pow]; simp
  have nord : ∀ {p : Prop}, ordO E d.o.op = true → p := fun e => by rw [ho] at e; cases e
  have e1 : ∀ t, t ∈ readsO ops d.o → tget (putD tm d.o.dst x) t = tget tm t := fun t ht => by
    rw [tget_putD hmost, if_neg (fun e => hself t e ht)]
  obtain ⟨hal, hwc⟩ := reads_alike e1
  refine ⟨rest, hpl, D.plan, hok, hfill, D.sok, D.tr, fun t => ?_, fun d2 hd2 hn => up _ (D.done d2 hd2 hn), fun d2 hd2 hX2 q hq => ?_, fun d2 hd2 hs2 hX2 => ?_, fun y hy => ?_, ?_⟩
  · rw [tget_putD hmost]
    by_cases e : d.o.dst = some t
    · exact .inr ⟨d, hd, hsch, here, e⟩
    · rw [if_neg e]
      rcases D.agree t with h | ⟨d2, h1, h2, h3, h4⟩
      · exact .inl h
      · exact .inr ⟨d2, h1, h2, up _ h3, h4⟩
  · rcases down _ hX2 with h | h
    · exact up _ (D.clos d2 hd2 h q hq)
    · have := D.plan.inj hd2 hd h
      subst this
      exact up _ (subM_spec hsub hq)
  · rcases down _ hX2 with h | h
    · obtain ⟨h1, h2, h3, _⟩ := D.wait d2 hd2 hs2 h
      refine ⟨h1, h2, fun hs => (h3 hs).put hmost (fun _ hy => List.mem_cons_of_mem _ hy) (D.apart hd hX hd2 h nord), fun hs s2 hs' => .inl ?_⟩
      have ha := hat hso d2 hd2
      unfold atSoft at ha
      rw [h] at ha
      simp only [h1, hs, Bool.false_or] at ha
      exact memN_iff.1 ha
    · have := D.plan.inj hd2 hd h
      subst this
      refine ⟨ho, hlt, fun _ => ⟨true, by rw [hwc]; exact hw, fun _ => ⟨(s.next, b), by simp, s, s', x, by rw [aopT_congr hal]; exact hx, hn, fun t ht => by rw [tget_putD hmost, if_pos ht]⟩, fun e => by cases e⟩, fun hs => by rw [hso] at hs; cases hs⟩
  · rcases List.mem_cons.1 hy with e | hy
    · subst e
      exact ⟨d, hd, rfl, hsch, here, hso, by rw [hwc]; exact hw⟩
    · obtain ⟨d', hd', e, h1, h2, h3, h4⟩ := D.held y hy
      exact ⟨d', hd', e, h1, up _ h2, h3, by rw [wanted_put hmost fun t ht => (D.apart hd hX hd' h2 nord t ht).1]; exact h4⟩
  · rw [List.map_cons, List.nodup_cons]
    refine ⟨fun hm => ?_, D.heldn⟩
    obtain ⟨y, hy, e⟩ := List.mem_map.1 hm
    obtain ⟨d', hd', e', _, h2, _⟩ := D.held y hy
    rw [e', show y.1 = d.j from e, hX] at h2
    cases h2

/-- The plan looks again. -/
theorem DRw.look {j : Nat} {d : PD} (D : DRw E own (some s) ρ σ ops pl tm nt sch tmps all (.chk j :: pn) X tmM) (hj : nth all j = some d) (hx : again d.o E ops tm s = true) :
    ∃ rest, pl = .chk d.o :: rest ∧ DRw E own (some s) ρ σ ops rest tm nt sch tmps all pn X tmM := by
  obtain ⟨hd, hdj⟩ := D.plan.nth hj
  subst hdj
  obtain ⟨rest, hpl, hfill⟩ := fill_chk hj D.fill
  have hok := D.ok
  unfold planOK at hok
  simp only [Bool.and_eq_true] at hok
  refine ⟨rest, hpl, D.plan, hok.2, hfill, D.sok, D.tr, D.agree, D.done, D.clos, fun d2 hd2 hs2 hX2 => ?_, D.held, D.heldn⟩
  obtain ⟨h1, h2, hsft, h3⟩ := D.wait d2 hd2 hs2 hX2
  refine ⟨h1, h2, hsft, fun hso s' hs' => ?_⟩
  by_cases e : d2.j = d.j
  · have := D.plan.inj hd2 hd e
    subst this
    cases hs'
    right
    rcases h3 hso s rfl with h4 | h4
    · unfold again at hx
      split at hx
      · cases hx
      · rename_i hw
        refine ⟨false, hw, fun e => Bool.noConfusion e, fun _ t ht => ?_⟩
        rw [ht] at hx
        exact (avEq_eq _ _ hx).symm
      · rename_i hw
        split at hx
        · rename_i v s'' hv
          obtain ⟨a, e⟩ := pure_val (ordO_pure h1 hso) hv
          cases e
          refine ⟨true, hw, fun _ => ⟨v, hv, fun t ht => ?_⟩, fun e => Bool.noConfusion e⟩
          rw [ht] at hx
          exact (avEq_eq _ _ hx).symm
        · cases hx
    · exact h4
  · rcases h3 hso s' hs' with h4 | h4
    · unfold lead at h4
      rcases List.mem_cons.1 h4 with h5 | h5
      · exact absurd h5 e
      · exact .inl h5
    · exact .inr h4
end
end Go.Eng

/- The engine: an abstract machine that runs closed code of any program, and its proof: part 5 of 12. No condition. -/
import Derived.Test.YtgbflpajaihmmaaGreatDoorE04
import Derived.Laws.BytesString
import Derived.Laws.BytesArg
/-! The engine's operations are the machine's: maps, ranges over strings. No condition. -/
namespace Go.Eng
open Go.RowKit

section
variable {E : Env} {B : Base} {ρ ρ' : Rho} {σ : Nat → Value} {s s' : St} {w w' : World} {tm : T AV} {ev : Operand → Value} {r : Res}

theorem eqC_true {a b : AV} (h : eqC a b = some true) : a = b := by
  unfold eqC at h
  split at h
  · simp at h; subst h; rfl
  · split at h
    · rename_i hk
      have hk := eqK_true hk
      rw [eqInt_eq] at h
      simp at h
      subst hk; subst h; rfl
    · cases h
  · rw [eqNats_eq] at h; simp at h; subst h; rfl
  · cases h
theorem eqCs_true : ∀ {l m : List AV}, eqCs l m = some true → l = m
  | [], [], _ => rfl
  | [], _ :: _, h => by simp [eqCs] at h
  | _ :: _, [], h => by simp [eqCs] at h
  | a :: l, b :: m, h => by
    unfold eqCs at h
    split at h
    · rename_i hc; rw [eqC_true hc, eqCs_true h]
    · cases h
    · cases h
theorem eqKey_true {a b : AV} (h : eqKey a b = some true) : a = b := by
  unfold eqKey at h
  split at h
  · rw [eqCs_true h]
  · exact eqC_true h

theorem fit_unique {d : TypeDesc} {a : AV} (hf : fitT d a = true) {u v : Value} (hu : VR ρ σ a u) (hv : VR ρ σ a v) : u = v ∧ ∀ n, Instr.sameBits n u v = true := by
  unfold fitT at hf
  split at hf
  · simp only [VR] at hu hv; subst hu; subst hv; exact ⟨rfl, fun n => by simp [Instr.sameBits]⟩
  · simp only [VR] at hu hv; subst hu; subst hv; exact ⟨rfl, fun n => by simp [Instr.sameBits]⟩
  · obtain ⟨x, rfl, hx⟩ := hu
    obtain ⟨y, rfl, hy⟩ := hv
    have := bytesNat_inj (hx.trans hy.symm)
    subst this
    exact ⟨rfl, fun n => by simp only [Instr.sameBits, beq_toListBytes, beq_self_eq_true]⟩
  · cases hf

theorem fitFs_unique : ∀ {fs : List Field} {l : List AV} {us vs : List Value}, fitFs E fs l = true → VRs ρ σ l us → VRs ρ σ l vs → us = vs ∧ ∀ n, (us.zip vs).all (fun (x, y) => Instr.sameBits n x y) = true
  | [], [], us, vs, _, hu, hv => by cases hu; cases hv; exact ⟨rfl, fun n => rfl⟩
  | [], _ :: _, _, _, h, _, _ => by simp [fitFs] at h
  | _ :: _, [], _, _, h, _, _ => by simp [fitFs] at h
  | f :: fs, a :: l, _, _, h, ⟨u, us, rfl, hu, hus⟩, ⟨v, vs, rfl, hv, hvs⟩ => by
    unfold fitFs at h
    split at h
    case h_2 => cases h
    split at h
    case h_2 => cases h
    rename_i hft
    obtain ⟨e1, b1⟩ := fit_unique hft hu hv
    obtain ⟨e2, b2⟩ := fitFs_unique h hus hvs
    exact ⟨by rw [e1, e2], fun n => by simp [b1 n]; simpa using b2 n⟩

/-- A key of a type that the engine knows. -/
theorem key_bits {t : TypeId} {k : AV} (hf : keyFits E t k = true) {u v : Value} (hu : VR ρ σ k u) (hv : VR ρ σ k v) : Instr.sameBits 10000 u v = true := by
  unfold keyFits at hf
  split at hf
  · split at hf
    case h_2 => cases hf
    obtain ⟨us, rfl, hus⟩ := hu
    obtain ⟨vs, rfl, hvs⟩ := hv
    obtain ⟨e, b⟩ := fitFs_unique hf hus hvs
    have e : us = vs := by cases us; cases vs; simp at e; rw [e]
    subst e
    show Instr.sameBits (9999 + 1) _ _ = true
    unfold Instr.sameBits
    simp only [beq_self_eq_true, Bool.true_and]
    exact b 9999
  · exact (fit_unique hf hu hv).2 _
  · cases hf

theorem checkKey_flat {P : Program} {t : TypeId} {d : TypeDesc} (hd : P.underlying t = some d) {a : AV} (hf : fitT d a = true) {v : Value} (hv : VR ρ σ a v) (e : Bool) (n : Nat) : (Instr.checkKey e (n + 1) t v).run P w = .ok () w := by
  unfold fitT at hf
  split at hf
  · simp only [VR] at hv; subst hv
    unfold Instr.checkKey
    simp [underlying, hd]
  · simp only [VR] at hv; subst hv
    unfold Instr.checkKey
    simp [underlying, hd]
  · obtain ⟨x, rfl, _⟩ := hv
    unfold Instr.checkKey
    simp [underlying, hd]
  · cases hf

theorem checkKey_fields (ok : EnvOK E) {e : Bool} {n : Nat} {xs : Array Value} : ∀ (fs : List Field) (i : Nat) (la : List AV), flatFs E fs i = true → fitFs E fs la = true → VRs ρ σ la (xs.toList.drop i) →
    (forIn (m := Sem) fs PUnit.unit (fun f _ => do
      if f.name ≠ "_" then do
        let __do_lift ← part f.type xs f.offset
        Instr.checkKey e (n + 1) f.type __do_lift
        pure (ForInStep.yield PUnit.unit)
      else pure (ForInStep.yield PUnit.unit))).run E.P w = .ok PUnit.unit w
  | [], i, la, _, _, _ => by rfl
  | f :: fs, i, [], _, h, _ => by simp [fitFs] at h
  | f :: fs, i, a :: la, hflat, hfit, ha => by
    obtain ⟨va, ra, ea, hra, hla⟩ := ha
    have hxa : xs[i]? = some va := by
      have : (xs.toList.drop i)[0]? = some va := by rw [ea]; rfl
      rw [List.getElem?_drop] at this; simpa using this
    have hla' : VRs ρ σ la (xs.toList.drop (i + 1)) := by
      have : xs.toList.drop (i + 1) = ra := by rw [← List.drop_drop (i := 1) (j := i), ea]; rfl
      rw [this]; exact hla
    simp only [flatFs, Bool.and_eq_true, Bool.not_eq_true', beq_eq_false_iff_ne] at hflat
    obtain ⟨⟨⟨h1, h2⟩, h3⟩, h4⟩ := hflat
    have ho : f.offset = i := Nat.eq_of_beq_eq_true h2
    unfold fitFs at hfit
    split at hfit
    case h_2 => cases hfit
    rename_i d hd
    split at hfit
    case h_2 => cases hfit
    rename_i hft
    have p1 := part_flat (w := w) ok h1 ho hxa
    have p2 := checkKey_flat (w := w) (ok.und hd) hft hra e n
    have ih := checkKey_fields ok (e := e) (n := n) fs (i + 1) la h4 hfit hla'
    have hne : f.name ≠ "_" := h3
    simp only [List.forIn_cons, Sem.run_bind, if_pos hne, p1, p2, Result.andThen_ok, Sem.run_pure, ih]

theorem checkKey_ok (ok : EnvOK E) {t : TypeId} {k : AV} (ht : keyT E t = true) (hf : keyFits E t k = true) {v : Value} (hv : VR ρ σ k v) (e : Bool) : (Instr.checkKey e 10000 t v).run E.P w = .ok () w := by
  show (Instr.checkKey e (9998 + 1 + 1) t v).run E.P w = .ok () w
  generalize 9998 = n
  unfold keyFits at hf
  split at hf
  · rename_i fs hd
    split at hf
    case h_2 => cases hf
    obtain ⟨xs, rfl, hc⟩ := hv
    unfold keyT at ht
    rw [hd] at ht
    simp only [Bool.and_eq_true] at ht
    have hu := ok.run_und hd w
    have hcf := checkKey_fields (w := w) (e := e) (n := n) ok fs.toList 0 _ ht.1 hf (by simpa using hc)
    unfold Instr.checkKey
    simp only [Sem.run_bind, hu, Result.andThen_ok]
    rw [← Array.forIn_toList]
    rw [hcf]
    rfl
  · rename_i d hd hs
    exact checkKey_flat (ok.und hs) hf hv e _
  · cases hf

/-- The first place of a key. -/
noncomputable def idxA (k : AV) : List (AV × AV × Nat) → Option Nat
  | [] => none
  | (q, _, _) :: es => match eqKey k q with
    | some true => some 0
    | _ => (idxA k es).map (· + 1)

/-- What a search comes to: nothing, or a place. -/
theorem findNow_ok {d : TypeDesc} {k : AV} (hf : fitT d k = true) {vk : Value} (hk : VR ρ σ k vk) : ∀ (es : List (AV × AV × Nat)) (ms : List MapEntry) (i : Nat) (x : Option AV), MR ρ σ es ms → findA k es = some x →
    ∃ res, Instr.findNow d vk ms i = some res ∧ ((x = none ∧ res = none) ∨ ∃ a j q b e, x = some a ∧ es[j]? = some (q, a, b) ∧ ms[j]? = some e ∧ q = k ∧ res = some (i + j, e.val) ∧ idxA k es = some j)
  | [], ms, i, x, hm, h => by
    cases hm
    simp [findA] at h; subst h
    exact ⟨none, rfl, .inl ⟨rfl, rfl⟩⟩
  | (q, a, b) :: es, ms, i, x, hm, h => by
    obtain ⟨e, r, rfl, hq, ha, hb, hr⟩ := hm
    have hsn : ∀ c, eqKey k q = some c → Instr.sameNow d vk e.key = some c := by
      intro c hc
      have hc : eqC k q = some c := by
        unfold eqKey at hc
        split at hc
        · simp [fitT] at hf
        · exact hc
      unfold fitT at hf
      split at hf
      · rename_i kk n
        simp only [VR] at hk; subst hk
        cases q <;> simp only [eqC] at hc <;> first | (cases hc; done) | skip
        rename_i k2 m
        simp only [VR] at hq; rw [hq]
        split at hc
        · rename_i hkk
          have hkk := eqK_true hkk
          subst hkk
          cases hc
          simp [Instr.sameNow, eqInt_eq]
        · cases hc
      · simp only [VR] at hk; subst hk
        cases q <;> simp only [eqC] at hc <;> first | (cases hc; done) | skip
        simp only [VR] at hq; rw [hq]
        cases hc
        rfl
      · obtain ⟨sx, rfl, rfl⟩ := hk
        cases q <;> simp only [eqC] at hc <;> first | (cases hc; done) | skip
        obtain ⟨sy, hsy, rfl⟩ := hq
        rw [hsy]
        cases hc
        simp only [Instr.sameNow, eqNats_eq, bytesNat_beq, beq_toListBytes]
      · cases hf
    unfold findA at h
    split at h
    · rename_i hc
      cases h
      refine ⟨some (i, e.val), ?_, .inr ⟨a, 0, q, b, e, rfl, rfl, rfl, (eqKey_true hc).symm, rfl, by simp [idxA, hc]⟩⟩
      simp only [Instr.findNow, hsn _ hc]
    · rename_i hc
      obtain ⟨res, h1, h2⟩ := findNow_ok hf hk es r (i + 1) x hr h
      refine ⟨res, ?_, ?_⟩
      · simp only [Instr.findNow, hsn _ hc, h1]
      · rcases h2 with h2 | ⟨a', j, q', b', e', r1, r2, r3, r4, r5, r6⟩
        · exact .inl h2
        · exact .inr ⟨a', j + 1, q', b', e', r1, by simpa using r2, by simpa using r3, r4, by rw [r5]; congr 2; omega, by simp [idxA, hc, r6]⟩
    · cases h

theorem findAsking_ok (ok : EnvOK E) {t : TypeId} {fs : Array Field} (hd : und E t = some (.struct fs)) (ht : flatFs E fs.toList 0 = true) (hst : E.P.stoodInHeld t = false) {l : List AV} (hf : fitFs E fs.toList l = true) {vk : Value} (hk : VR ρ σ (.agg l) vk) :
    ∀ (es : List (AV × AV × Nat)) (ms : List MapEntry) (i : Nat) (x : Option AV), MR ρ σ es ms → findA (.agg l) es = some x →
    ∃ res, (Instr.findAsking t vk ms i).run E.P w = .ok res w ∧ ((x = none ∧ res = none) ∨ ∃ a j q b e, x = some a ∧ es[j]? = some (q, a, b) ∧ ms[j]? = some e ∧ q = .agg l ∧ res = some (i + j, e.val) ∧ idxA (.agg l) es = some j)
  | [], ms, i, x, hm, h => by
    cases hm
    simp [findA] at h; subst h
    exact ⟨none, rfl, .inl ⟨rfl, rfl⟩⟩
  | (q, a, b) :: es, ms, i, x, hm, h => by
    obtain ⟨e, r, rfl, hq, ha, hb, hr⟩ := hm
    have hsn : ∀ c, eqKey (.agg l) q = some c → (Op.equal t vk e.key).run E.P w = .ok c w := by
      intro c hc
      cases q <;> simp only [eqKey, eqC] at hc <;> first | (cases hc; done) | skip
      rename_i m
      obtain ⟨xs, rfl, hxs⟩ := hk
      obtain ⟨ys, hys, hys'⟩ := hq
      rw [hys]
      show (Op.equalIn (9998 + 1 + 1) t _ _).run E.P w = _
      have hff : E.P.fieldsOf t = fs := by simp [Program.fieldsOf, ok.und hd]
      rw [run_equalIn_struct w _ t xs ys (by rw [hff]; exact ok.und hd) hst, hff]
      exact eqFields_ok ok fs.toList 0 l m c ht hf (by simpa using hxs) (by simpa using hys') hc
    unfold findA at h
    split at h
    · rename_i hc
      cases h
      refine ⟨some (i, e.val), ?_, .inr ⟨a, 0, q, b, e, rfl, rfl, rfl, (eqKey_true hc).symm, rfl, by simp [idxA, hc]⟩⟩
      simp only [Instr.findAsking, Sem.run_bind, hsn _ hc, Result.andThen_ok, if_true, Sem.run_pure]
    · rename_i hc
      obtain ⟨res, h1, h2⟩ := findAsking_ok ok hd ht hst hf hk es r (i + 1) x hr h
      refine ⟨res, ?_, ?_⟩
      · simp only [Instr.findAsking, Sem.run_bind, hsn _ hc, Result.andThen_ok, Bool.false_eq_true, if_false, h1]
      · rcases h2 with h2 | ⟨a', j, q', b', e', r1, r2, r3, r4, r5, r6⟩
        · exact .inl h2
        · exact .inr ⟨a', j + 1, q', b', e', r1, by simpa using r2, by simpa using r3, r4, by rw [r5]; congr 2; omega, by simp [idxA, hc, r6]⟩
    · cases h

theorem findKey_ok (ok : EnvOK E) {t : TypeId} {k : AV} (ht : keyT E t = true) (hf : keyFits E t k = true) {vk : Value} (hk : VR ρ σ k vk) {es : List (AV × AV × Nat)} {ms : List MapEntry} {x : Option AV} (hm : MR ρ σ es ms)
    (h : findA k es = some x) : ∃ res, (Instr.findKey t vk ms).run E.P w = .ok res w ∧ ((x = none ∧ res = none) ∨ ∃ a j q b e, x = some a ∧ es[j]? = some (q, a, b) ∧ ms[j]? = some e ∧ q = k ∧ res = some (j, e.val) ∧ idxA k es = some j) := by
  unfold keyFits at hf
  split at hf
  · rename_i fs hd
    split at hf
    case h_2 => cases hf
    rename_i l
    unfold keyT at ht
    rw [hd] at ht
    simp only [Bool.and_eq_true, Bool.not_eq_true'] at ht
    have hu := ok.run_und hd w
    cases ms with
    | nil =>
      have : es = [] := by
        cases es with
        | nil => rfl
        | cons p es => obtain ⟨q, a, b⟩ := p; obtain ⟨e, r, h', _⟩ := hm; cases h'
      subst this
      simp [findA] at h; subst h
      refine ⟨none, ?_, .inl ⟨rfl, rfl⟩⟩
      simp only [Instr.findKey, Sem.run_bind, hu, Result.andThen_ok, Instr.findNow, Sem.run_pure]
    | cons e ms =>
      obtain ⟨res, h1, h2⟩ := findAsking_ok (w := w) ok hd ht.1 ht.2 hf hk es (e :: ms) 0 x hm h
      refine ⟨res, ?_, by simpa using h2⟩
      obtain ⟨xs, rfl, _⟩ := hk
      simp only [Instr.findKey, Sem.run_bind, hu, Result.andThen_ok, Instr.findNow, Instr.sameNow, h1]
  · rename_i d hd hs
    have hu := ok.run_und hs w
    obtain ⟨res, h1, h2⟩ := findNow_ok hf hk es ms 0 x hm h
    refine ⟨res, ?_, by simpa using h2⟩
    simp only [Instr.findKey, Sem.run_bind, hu, Result.andThen_ok, h1, Sem.run_pure]
  · cases hf

theorem MR.val {es : List (AV × AV × Nat)} {ms : List MapEntry} (h : MR ρ σ es ms) : ∀ {j : Nat} {q a : AV} {b : Nat} {e : MapEntry}, es[j]? = some (q, a, b) → ms[j]? = some e → VR ρ σ a e.val ∧ VR ρ σ q e.key ∧ e.born = b := by
  induction es generalizing ms with
  | nil => intro j q a b e h1; simp at h1
  | cons p es ih =>
    obtain ⟨q0, a0, b0⟩ := p
    obtain ⟨e0, r, rfl, hq, ha, hb, hr⟩ := h
    intro j q a b e h1 h2
    cases j with
    | zero => simp at h1 h2; obtain ⟨rfl, rfl, rfl⟩ := h1; subst h2; exact ⟨ha, hq, hb⟩
    | succ j => exact ih hr (by simpa using h1) (by simpa using h2)

theorem R.mapOf (h : R B ρ σ s w) {i : Nat} {es : List (AV × AV × Nat)} {c : Nat} (hi : s.get i = some (.map es c)) {L : Loc} (hL : ρ i = some L) : L.sh = 0 ∧ ∃ m, w.heap[L.blk]? = some (.map m c) ∧ MR ρ σ es m.toList := by
  obtain ⟨ob, hob, z, m, rfl, hm⟩ := h.here hi hL
  exact ⟨z, m, hob, hm⟩

theorem run_getObj {P : Program} {g : Nat} {o : Obj} (h : w.heap[g]? = some o) (hc : ∀ c t f, o ≠ .cells c t f) : (getObj g).run P w = .ok o w := by
  simp only [getObj, Sem.run, h]
theorem run_setObj {P : Program} {g : Nat} {o : Obj} (o' : Obj) (h : w.heap[g]? = some o) (hc : ∀ c t f, o ≠ .cells c t f) : (setObj g o').run P w = .ok () { w with heap := w.heap.setIfInBounds g o' } := by
  simp only [setObj, Sem.run, h]

theorem lookupA_ok (ok : EnvOK E) (h : R B ρ σ s w) {t : TypeId} {m k v : AV} {c : Bool} (hx : lookupA E s t m k c = some v) {vm vk : Value} (hm : VR ρ σ m vm) (hk : VR ρ σ k vk) :
    ∃ u, (Instr.lookup t vm vk c).run E.P w = .ok u w ∧ VR ρ σ v u := by
  unfold lookupA at hx
  split at hx
  case h_2 => cases hx
  rename_i kt et hd
  split at hx
  · cases hx
  rename_i hkf
  simp only [Bool.and_eq_true] at hkf
  have hu := ok.run_und hd w
  simp only at hx
  split at hx
  · cases hx
  rename_i es hes
  have hes' : ∃ ms : Array MapEntry, ((vm = .map none ∧ ms = #[]) ∨ ∃ r cc, vm = .map (some r) ∧ w.heap[r]? = some (.map ms cc)) ∧ MR ρ σ es ms.toList := by
    split at hes
    · cases hes
      simp only [VR] at hm; subst hm
      exact ⟨#[], .inl ⟨rfl, rfl⟩, rfl⟩
    · split at hes
      · rename_i i es' cc hi
        cases hes
        obtain ⟨L, hL, rfl⟩ := hm
        obtain ⟨_, ms, hob, hmr⟩ := h.mapOf hi hL
        exact ⟨ms, .inr ⟨_, _, rfl, hob⟩, hmr⟩
      · cases hes
    · cases hes
  obtain ⟨ms, hms, hmr⟩ := hes'
  have hck := checkKey_ok (w := w) ok hkf.1 hkf.2 hk ms.isEmpty
  have run : ∀ (x : Option AV), findA k es = some x → (∀ a, x = some a → ∃ u, VR ρ σ a u ∧ (Instr.lookup t vm vk c).run E.P w = .ok (if c then .tuple #[u, .bool true] else u) w) ∧
      (x = none → ∀ z, zeroOf E et = some z → ∃ u, VR ρ σ z u ∧ (Instr.lookup t vm vk c).run E.P w = .ok (if c then .tuple #[u, .bool false] else u) w) := by
    intro x hx
    obtain ⟨res, h1, h2⟩ := findKey_ok (w := w) ok hkf.1 hkf.2 hk hmr hx
    refine ⟨fun a ha => ?_, fun hxn z hz => ?_⟩
    · subst ha
      rcases h2 with ⟨h3, _⟩ | ⟨a', j, q, b, e, h3, h4, h5, h6, h7, _⟩
      · cases h3
      · cases h3
        refine ⟨e.val, (hmr.val h4 h5).1, ?_⟩
        rcases hms with ⟨rfl, rfl⟩ | ⟨r, cc, rfl, hob⟩
        · simp at h5
        · simp only [Instr.lookup, Sem.run_bind, hu, Result.andThen_ok, run_getObj (P := E.P) hob (by simp), hck, h1, h7, Sem.run_pure]
    · subst hxn
      rcases h2 with ⟨_, h3⟩ | ⟨a', j, q, b, e, h3, _⟩
      · obtain ⟨zv, hz1, hz2⟩ := ok.run_zero hz w
        refine ⟨zv, hz2 ρ σ, ?_⟩
        rcases hms with ⟨rfl, rfl⟩ | ⟨r, cc, rfl, hob⟩
        · simp only [Instr.lookup, Sem.run_bind, hu, Result.andThen_ok, hck, h1, h3, hz1, Sem.run_pure]
        · simp only [Instr.lookup, Sem.run_bind, hu, Result.andThen_ok, run_getObj (P := E.P) hob (by simp), hck, h1, h3, hz1, Sem.run_pure]
      · cases h3
  split at hx
  · cases hx
  · rename_i a ha
    rw [findF_eq] at ha
    cases hx
    obtain ⟨u, hu1, hu2⟩ := (run _ ha).1 a rfl
    cases c with
    | true => exact ⟨_, hu2, _, rfl, u, _, rfl, hu1, _, _, rfl, rfl, rfl⟩
    | false => exact ⟨_, hu2, hu1⟩
  · rename_i ha
    rw [findF_eq] at ha
    split at hx
    case h_2 => cases hx
    rename_i z hz
    cases hx
    obtain ⟨u, hu1, hu2⟩ := (run _ ha).2 rfl z hz
    cases c with
    | true => exact ⟨_, hu2, _, rfl, u, _, rfl, hu1, _, _, rfl, rfl, rfl⟩
    | false => exact ⟨_, hu2, hu1⟩
end
end Go.Eng

/-! The engine's operations are the machine's: map stores, ranges over strings. No condition. -/
namespace Go.Eng
open Go.RowKit

section
variable {E : Env} {B : Base} {ρ ρ' : Rho} {σ : Nat → Value} {s s' : St} {w w' : World} {tm : T AV} {ev : Operand → Value} {r : Res}

theorem setA_spec {k v : AV} {c : Nat} : ∀ {es es' : List (AV × AV × Nat)} {c' : Nat}, setA k v c es = some (es', c') →
    (findA k es = some none ∧ es' = es ++ [(k, v, c)] ∧ c' = c + 1) ∨
    (∃ j a b, findA k es = some (some a) ∧ idxA k es = some j ∧ es[j]? = some (k, a, b) ∧ es' = es.set j (k, v, b) ∧ c' = c)
  | [], es', c', h => by simp [setA] at h; obtain ⟨rfl, rfl⟩ := h; exact .inl ⟨rfl, rfl, rfl⟩
  | (q, u, b) :: es, es', c', h => by
    unfold setA at h
    split at h
    · rename_i hc
      simp at h
      obtain ⟨rfl, rfl⟩ := h
      have hq := eqKey_true hc
      subst hq
      exact .inr ⟨0, u, b, by simp [findA, hc], by simp [idxA, hc], rfl, rfl, rfl⟩
    · rename_i hc
      split at h
      · rename_i es2 c2 hr
        simp at h
        obtain ⟨rfl, rfl⟩ := h
        rcases setA_spec hr with ⟨h1, h2, h3⟩ | ⟨j, a, b', h1, h2, h3, h4, h5⟩
        · exact .inl ⟨by simp [findA, hc, h1], by simp [h2], h3⟩
        · exact .inr ⟨j + 1, a, b', by simp [findA, hc, h1], by simp [idxA, hc, h2], by simpa using h3, by simp [h4], h5⟩
      · cases h
    · cases h

theorem MR.push {es : List (AV × AV × Nat)} {ms : List MapEntry} (h : MR ρ σ es ms) {k v : AV} {c : Nat} {vk vv : Value} (hk : VR ρ σ k vk) (hv : VR ρ σ v vv) : MR ρ σ (es ++ [(k, v, c)]) (ms ++ [{ key := vk, val := vv, born := c }]) := by
  induction es generalizing ms with
  | nil => cases h; exact ⟨_, [], rfl, hk, hv, rfl, rfl⟩
  | cons p es ih => obtain ⟨q, a, b⟩ := p; obtain ⟨e, r, rfl, hq, ha, hb, hr⟩ := h; exact ⟨e, _, rfl, hq, ha, hb, ih hr⟩
theorem MR.set {es : List (AV × AV × Nat)} {ms : List MapEntry} (h : MR ρ σ es ms) {j : Nat} {k v a : AV} {b : Nat} (hj : es[j]? = some (k, a, b)) {vk vv : Value} (hk : VR ρ σ k vk) (hv : VR ρ σ v vv) :
    MR ρ σ (es.set j (k, v, b)) (ms.modify j fun e => { e with key := vk, val := vv }) := by
  induction es generalizing ms j with
  | nil => simp at hj
  | cons p es ih =>
    obtain ⟨q, a', b'⟩ := p
    obtain ⟨e, r, rfl, hq, ha, hb, hr⟩ := h
    cases j with
    | zero => simp at hj; obtain ⟨rfl, rfl, rfl⟩ := hj; exact ⟨_, r, rfl, hk, hv, hb, hr⟩
    | succ j => exact ⟨e, _, by simp, hq, ha, hb, ih hr (by simpa using hj)⟩

theorem R.gN_le (h : R B ρ σ s w) {i : Nat} {b : Blk} (hi : s.get i = some b) (hb : ∀ cs el, b ≠ .cells cs el false) : gN ≤ i := by
  rcases Nat.lt_or_ge i gN with hlt | hge
  · obtain ⟨cs, el, e⟩ := h.glob i b hi hlt
    exact absurd e (hb cs el)
  · exact hge

theorem mapUpdateA_ok (ok : EnvOK E) (h : R B ρ σ s w) {t : TypeId} {m k v : AV} (hx : mapUpdateA E s t m k v = some s') {vm vk vv : Value} (hm : VR ρ σ m vm) (hk : VR ρ σ k vk) (hv : VR ρ σ v vv) :
    ∃ w', (Instr.mapUpdate t vm vk vv).run E.P w = .ok () w' ∧ Kept B.b w w' ∧ R B ρ σ s' w' := by
  unfold mapUpdateA at hx
  split at hx
  case h_2 => cases hx
  rename_i kt et hd
  split at hx
  · cases hx
  rename_i hkf
  simp only [Bool.and_eq_true] at hkf
  split at hx
  case h_2 => cases hx
  rename_i i
  split at hx
  case h_2 => cases hx
  rename_i es c hi
  split at hx
  case h_2 => cases hx
  rename_i es' c' hset
  rw [setF_eq] at hset
  cases hx
  obtain ⟨L, hL, rfl⟩ := hm
  obtain ⟨hz, ms, hob, hmr⟩ := h.mapOf hi hL
  have hu := ok.run_und hd w
  have hck := checkKey_ok (w := w) ok hkf.1 hkf.2 hk false
  have hg := h.gN_le hi (by simp)
  have hget := run_getObj (P := E.P) hob (by simp)
  have hupd : ∀ o, Upd w L.blk o { w with heap := w.heap.setIfInBounds L.blk o } := fun o => Upd.setObj w L.blk o (lt_of_get hob)
  have hset' : ∀ o, (setObj L.blk o).run E.P w = .ok () { w with heap := w.heap.setIfInBounds L.blk o } := fun o => run_setObj (P := E.P) o hob (by simp)
  rcases setA_spec hset with ⟨h1, hes, hcc⟩ | ⟨j, a, b, h1, h2, h3, hes, hcc⟩ <;> subst hes <;> subst hcc
  · obtain ⟨res, r1, r2⟩ := findKey_ok (w := w) ok hkf.1 hkf.2 hk hmr h1
    rcases r2 with ⟨_, rfl⟩ | ⟨a', j, q, b, e, r3, _⟩
    · refine ⟨_, ?_, (hupd (.map (ms.push { key := vk, val := vv, born := c }) (c + 1))).below (h.own i _ L hi hL hg), h.upd hi hL hg (hupd _) ⟨hz, _, rfl, ?_⟩⟩
      · simp only [Instr.mapUpdate, Sem.run_bind, hu, Result.andThen_ok, hget, hck, r1, hset']
      · simpa using hmr.push hk hv
    · cases r3
  · obtain ⟨res, r1, r2⟩ := findKey_ok (w := w) ok hkf.1 hkf.2 hk hmr h1
    rcases r2 with ⟨r3, _⟩ | ⟨a', j', q, b', e, r3, r4, r5, r6, r7, r8⟩
    · cases r3
    · cases r3
      rw [h2] at r8; cases r8
      have r5' : ms[j]? = some e := by simpa using r5
      have hbits : Instr.sameBits 10000 e.key vk = true := key_bits hkf.2 (r6 ▸ (hmr.val r4 r5).2.1) hk
      refine ⟨_, ?_, (hupd (.map (ms.modify j fun e => { e with key := vk, val := vv }) c')).below (h.own i _ L hi hL hg), h.upd hi hL hg (hupd _) ⟨hz, _, rfl, ?_⟩⟩
      · simp only [Instr.mapUpdate, Sem.run_bind, hu, Result.andThen_ok, hget, hck, r1, r7, r5', Option.map_some, Option.getD_some, Instr.keyThatStays, hbits, if_true, Sem.run_pure, hset']
      · have := hmr.set h3 hk hv
        simpa using this

variable (ok : EnvOK E) (h : R B ρ σ s w) (he : EvOK ρ σ tm ev)

include ok h he in
theorem oLookup_ok {t : TypeId} {x ix : Operand} {c : Bool} (hx : oLookup E tm s t x ix c = some r) : ResOK B ρ σ r w ((do pure (.value (← Instr.lookup t (ev x) (ev ix) c)) : Sem Next).run E.P w) := by
  unfold oLookup at hx
  split at hx
  · cases hx
  rename_i a ha
  split at hx
  case h_2 => cases hx
  rename_i b hb
  obtain ⟨v, hv, rfl⟩ := val1_spec hx
  obtain ⟨u, hu, hr⟩ := lookupA_ok ok h hv (he x a ha) (he ix b hb)
  exact res_of_val0 h hu hr

include ok h he in
theorem oUpdate_ok {t : TypeId} {m k x : Operand} (hx : oUpdate E tm s t m k x = some r) : ResOK B ρ σ r w ((do Instr.mapUpdate t (ev m) (ev k) (ev x); pure .skip : Sem Next).run E.P w) := by
  unfold oUpdate at hx
  split at hx
  · cases hx
  rename_i a ha
  split at hx
  · cases hx
  rename_i b hb
  split at hx
  · cases hx
  rename_i v hv
  split at hx
  case h_2 => cases hx
  rename_i s' hs
  cases hx
  obtain ⟨w', hw, hbl, hR⟩ := mapUpdateA_ok ok h hs (he m a ha) (he k b hb) (he x v hv)
  exact res_of_unit hw hbl (Ext.refl _) hR

include ok h he in
theorem oRange_ok {t : TypeId} {x : Operand} (hx : oRange E tm s t x = some r) : ResOK B ρ σ r w ((do pure (.value (← Instr.range t (ev x))) : Sem Next).run E.P w) := by
  unfold oRange at hx
  split at hx
  · rename_i hd
    split at hx
    case h_2 => cases hx
    rename_i l ha
    split at hx
    case h_2 => cases hx
    rename_i i s' hn
    cases hx
    obtain ⟨sb, hp, hl⟩ := he x _ ha
    obtain ⟨ρ', hρ, hR, hi⟩ := h.new (e := 0) hn (New.alloc w (.stringIter sb 0)) ⟨rfl, sb, rfl, hl⟩
    refine res_of_val (v := .pointer (some ⟨w.heap.size, 0, none⟩)) ?_ ((New.alloc w _).below h.size) hρ hR ⟨_, hi, rfl⟩
    have hu := ok.run_und hd w
    simp [Instr.range, hu, hp]
  · rename_i hd
    have hu := ok.run_und hd w
    split at hx
    · rename_i ha
      split at hx
      case h_2 => cases hx
      rename_i i s' hn
      cases hx
      have hp : ev x = .map none := he x _ ha
      obtain ⟨ρ', hρ, hR, hi⟩ := h.new (e := 0) hn (New.alloc w (.mapIter none 0 #[] 0)) ⟨rfl, none, rfl, .inl ⟨rfl, rfl⟩⟩
      refine res_of_val (v := .pointer (some ⟨w.heap.size, 0, none⟩)) ?_ ((New.alloc w _).below h.size) hρ hR ⟨_, hi, rfl⟩
      simp [Instr.range, hu, hp]
    · rename_i j ha
      split at hx
      case h_2 => cases hx
      rename_i es clock hj
      split at hx
      case h_2 => cases hx
      rename_i i s' hn
      cases hx
      obtain ⟨D, hD, hp⟩ := he x _ ha
      obtain ⟨_, m, hm, _⟩ := h.mapOf hj hD
      have hg := run_getObj (P := E.P) hm (by simp)
      obtain ⟨ρ', hρ, hR, hi⟩ := h.new (e := 0) hn (New.alloc w (.mapIter (some D.blk) clock #[] clock)) ⟨rfl, some D.blk, rfl, .inr ⟨j, D, rfl, hD, rfl⟩⟩
      refine res_of_val (v := .pointer (some ⟨w.heap.size, 0, none⟩)) ?_ ((New.alloc w _).below h.size) hρ hR ⟨_, hi, rfl⟩
      simp [Instr.range, hu, hp, hg]
    · cases hx
  · cases hx

theorem anyOld_spec {ρ : Rho} {σ : Nat → Value} {last : Nat} : ∀ {es : List (AV × AV × Nat)} {ms : List MapEntry}, MR ρ σ es ms → anyOld last es = true → ms.all (fun e => decide (e.born ≥ last)) = false
  | [], _, _, h => by cases h
  | (k, v, b) :: l, _, ⟨e, r, he, hk, hv, hb, hl⟩, h => by
    subst he
    unfold anyOld at h
    simp only [Bool.or_eq_true] at h
    rcases h with h | h
    · have : b < last := Nat.le_of_ble_eq_true h
      rw [List.all_cons]
      have : decide (e.born ≥ last) = false := by rw [hb]; simp; omega
      rw [this]; rfl
    · rw [List.all_cons, anyOld_spec hl h, Bool.and_false]

theorem leftE_spec {ρ : Rho} {σ : Nat → Value} {seen : List Nat} : ∀ {es : List (AV × AV × Nat)} {ms : List MapEntry}, MR ρ σ es ms → MR ρ σ (leftE seen es) (ms.filter fun e => !seen.toArray.contains e.born)
  | [], _, h => by cases h; rfl
  | (k, v, b) :: l, _, ⟨e, r, he, hk, hv, hb, hl⟩ => by
    subst he
    have ih := leftE_spec (seen := seen) hl
    have hm : ∀ l : List Nat, memN b l = decide (b ∈ l) := fun l => by
      induction l with
      | nil => rfl
      | cons a l ih =>
        unfold memN
        rw [ih]
        by_cases e : a = b
        · subst e; simp
        · have e' : Nat.beq a b = false := by
            cases hq : Nat.beq a b with
            | false => rfl
            | true => exact absurd (Nat.eq_of_beq_eq_true hq) e
          simp [e', Ne.symm e]
    have hc : seen.toArray.contains e.born = memN b seen := by rw [hb, hm]; simp
    unfold leftE
    rw [List.filter_cons, hc]
    cases memN b seen with
    | true => simpa using ih
    | false => exact ⟨e, _, by simp, hk, hv, hb, ih⟩

theorem lastN_eq : ∀ l : List Nat, lastN l = l.getLast?
  | [] => rfl
  | [a] => rfl
  | a :: b :: l => by
    have : lastN (a :: b :: l) = lastN (b :: l) := rfl
    rw [this, lastN_eq (b :: l)]; simp [List.getLast?_cons]

theorem findB_spec {ρ : Rho} {σ : Nat → Value} {b : Nat} {k v : AV} : ∀ {es : List (AV × AV × Nat)} {ms : List MapEntry}, MR ρ σ es ms → findB b es = some (k, v) → ∃ e, ms.find? (fun e => e.born == b) = some e ∧ VR ρ σ k e.key ∧ VR ρ σ v e.val
  | [], _, _, h => by cases h
  | (k', v', c) :: l, _, ⟨e, r, he, hk, hv, hb, hl⟩, h => by
    subst he
    unfold findB at h
    split at h
    · rename_i hc
      cases h
      refine ⟨e, ?_, hk, hv⟩
      rw [List.find?_cons, hb, Nat.eq_of_beq_eq_true hc]; simp
    · rename_i hc
      obtain ⟨e', h1, h2, h3⟩ := findB_spec hl h
      refine ⟨e', ?_, h2, h3⟩
      rw [List.find?_cons, hb]
      have : (c == b) = false := by
        cases hq : (c == b) with
        | false => rfl
        | true =>
          have : c = b := by simpa using hq
          subst this; simp at hc
      rw [this]; exact h1

include h he in
theorem oEntry_ok {P : Program} {it : Operand} (hx : oEntry tm s it = some r) : ResOK B ρ σ r w ((do pure (.value (← Instr.entry (ev it))) : Sem Next).run P w) := by
  unfold oEntry at hx
  split at hx
  case h_2 => cases hx
  rename_i i ha
  obtain ⟨L, hL, hp⟩ := he it _ ha
  split at hx
  case h_2 => cases hx
  rename_i j since seen last hi
  obtain ⟨ob, hob, hz, mo, rfl, hmo⟩ := h.here hi hL
  have hp : ev it = .pointer (some ⟨L.blk, 0, none⟩) := by rw [hp, hz]
  have hget := run_getObj (P := P) hob (by simp)
  split at hx
  case h_2 => cases hx
  rename_i b hb
  split at hx
  case h_2 => cases hx
  rename_i es clock hj
  obtain ⟨D, hD, rfl⟩ : ∃ D, ρ j = some D ∧ mo = some D.blk := by
    rcases hmo with ⟨e, _⟩ | ⟨i', D, e, hD, e'⟩
    · cases e
    · cases e; exact ⟨D, hD, e'⟩
  obtain ⟨_, ms, hm, hmr⟩ := h.mapOf hj hD
  have hgm := run_getObj (P := P) hm (by simp)
  split at hx
  case h_2 => cases hx
  rename_i hc
  have hc : clock = last := Nat.eq_of_beq_eq_true hc
  split at hx
  case h_2 => cases hx
  rename_i k v hf
  cases hx
  obtain ⟨e, hfe, hk, hv⟩ := findB_spec hmr hf
  have hback : seen.toArray.back? = some b := by rw [lastN_eq] at hb; simpa using hb
  have hfind : ms.find? (fun e => e.born == b) = some e := by rw [← Array.find?_toList]; exact hfe
  refine res_of_val0 h (v := .tuple #[e.key, e.val]) ?_ ⟨_, rfl, _, _, rfl, hk, _, _, rfl, hv, rfl⟩
  simp only [Instr.entry, hp, Sem.run_bind, hget, Result.andThen_ok, hback, hgm, hc, hfind]
  simp

include h he in
theorem oNextM_ok {P : Program} {it : Operand} {ty : TypeId} (hx : oNextM tm s it = some r) : ResOK B ρ σ r w ((do pure (.value (← Instr.next (ev it) false ty)) : Sem Next).run P w) := by
  unfold oNextM at hx
  split at hx
  case h_2 => cases hx
  rename_i i ha
  obtain ⟨L, hL, hp⟩ := he it _ ha
  split at hx
  · rename_i since seen last hi
    cases hx
    obtain ⟨ob, hob, hz, mo, rfl, hmo⟩ := h.here hi hL
    have hp : ev it = .pointer (some ⟨L.blk, 0, none⟩) := by rw [hp, hz]
    have hget := run_getObj (P := P) hob (by simp)
    obtain rfl : mo = none := by
      rcases hmo with ⟨_, e⟩ | ⟨_, _, e, _⟩
      · exact e
      · cases e
    refine res_of_val0 h (v := .tuple #[.bool false]) ?_ ⟨_, rfl, _, _, rfl, rfl, rfl⟩
    simp only [Instr.next, hp, Sem.run_bind, hget, Result.andThen_ok, Sem.run_pure]
  · rename_i j since seen last hi
    obtain ⟨ob, hob, hz, mo, rfl, hmo⟩ := h.here hi hL
    have hp : ev it = .pointer (some ⟨L.blk, 0, none⟩) := by rw [hp, hz]
    have hget := run_getObj (P := P) hob (by simp)
    split at hx
    case h_2 => cases hx
    rename_i es clock hj
    obtain ⟨D, hD, rfl⟩ : ∃ D, ρ j = some D ∧ mo = some D.blk := by
      rcases hmo with ⟨e, _⟩ | ⟨i', D, e, hD, e'⟩
      · cases e
      · cases e; exact ⟨D, hD, e'⟩
    obtain ⟨_, ms, hm, hmr⟩ := h.mapOf hj hD
    have hgm := run_getObj (P := P) hm (by simp)
    split at hx
    case h_2 => cases hx
    rename_i hc
    have hcond : (!seen.toArray.isEmpty && !ms.isEmpty && ms.all (fun e => decide (e.born ≥ last))) = false := by
      simp only [Bool.or_eq_true] at hc
      rcases hc with (hc | hc) | hc
      · cases seen with
        | nil => rfl
        | cons _ _ => cases hc
      · cases es with
        | nil =>
          have : ms = #[] := Array.ext' (by have h : ms.toList = [] := hmr; simpa using h)
          subst this; simp
        | cons _ _ => cases hc
      · have := anyOld_spec hmr hc
        rw [← Array.all_toList, this, Bool.and_false]
    have hleft := leftE_spec (seen := seen) hmr
    have hfl : (ms.filter fun e => !seen.toArray.contains e.born).toList = ms.toList.filter fun e => !seen.toArray.contains e.born := by simp
    have hg := h.gN_le hi (by simp)
    split at hx
    · rename_i hle
      cases hx
      rw [hle] at hleft
      have hemp : (ms.filter fun e => !seen.toArray.contains e.born) = #[] := Array.ext' (by rw [hfl]; exact hleft)
      refine res_of_val0 h (v := .tuple #[.bool false]) ?_ ⟨_, rfl, _, _, rfl, rfl, rfl⟩
      simp only [Instr.next, hp, Sem.run_bind, hget, Result.andThen_ok, hgm, hcond, Bool.false_eq_true, if_false, hemp]
      simp [run_choose, Question.forced]
    · rename_i k v b hle
      split at hx
      case h_2 => cases hx
      rename_i hb
      cases hx
      rw [hle] at hleft
      obtain ⟨e, r', he', hk, hv, hb', hr'⟩ := hleft
      cases hr'
      have hone : (ms.filter fun e => !seen.toArray.contains e.born) = #[e] := Array.ext' (by rw [hfl]; exact he')
      have hlt : e.born < since := by rw [hb']; exact Nat.le_of_ble_eq_true hb
      have hupd := Upd.setObj w L.blk (.mapIter (some D.blk) since (seen.toArray.push e.born) clock) (lt_of_get hob)
      refine res_of_val (v := .tuple #[.bool true, e.key, e.val]) ?_ (hupd.below (h.own i _ L hi hL hg)) (Ext.refl _) (h.upd hi hL hg hupd ⟨hz, some D.blk, by rw [hb']; simp, .inr ⟨j, D, rfl, hD, rfl⟩⟩) ⟨_, rfl, _, _, rfl, rfl, _, _, rfl, hk, _, _, rfl, hv, rfl⟩
      simp only [Instr.next, hp, Sem.run_bind, hget, Result.andThen_ok, hgm, hcond, Bool.false_eq_true, if_false, hone]
      have h1 : ¬ (e.born ≥ since) := by omega
      simp [run_choose, Question.forced, hlt, h1, run_setObj (P := P) _ hob (by simp)]
    · cases hx
  · cases hx

theorem ble_iff (a b : Nat) : Nat.ble a b = decide (a ≤ b) := by
  rw [Bool.eq_iff_iff, Nat.ble_eq]; simp
theorem bif_eq {α : Type} (b : Bool) (x y : α) : bif_ b x y = if b = true then x else y := by cases b <;> rfl
theorem contB_eq (b : Nat) : contB b = (b / 64 == 2) := by unfold contB; rw [beq_iff, Bool.eq_iff_iff]; simp

theorem decodeN_ok (sb : ByteArray) (pos : Nat) : ∀ {rest : List Nat}, rest = (bytesNat sb).drop pos → rest ≠ [] → Utf8.decode sb pos = decodeN rest := by
  intro rest hr hne
  have hlen : rest.length = sb.size - pos := by rw [hr, List.length_drop, bytesNat_len]
  have hat : ∀ k b, rest[k]? = some b → (sb.get! (pos + k)).toNat = b := by
    intro k b hk
    rw [hr, List.getElem?_drop] at hk
    unfold bytesNat at hk
    rw [List.getElem?_map] at hk
    cases hx : sb.data.toList[pos + k]? with
    | none => rw [hx] at hk; cases hk
    | some y =>
      rw [hx] at hk; cases hk
      have hlt : pos + k < sb.data.size := by simpa using (List.getElem?_eq_some_iff.1 hx).1
      have hy : sb.data[pos + k]'hlt = y := by simpa using (List.getElem?_eq_some_iff.1 hx).2
      show (sb.data[pos + k]!).toNat = y.toNat
      rw [getElem!_pos sb.data _ hlt, hy]
  have hin : ∀ k, k < rest.length → (pos + k < sb.size) = True := by
    intro k hk; simp; omega
  have hout : ∀ k, rest.length ≤ k → (pos + k < sb.size) = False := by
    intro k hk; simp; omega
  unfold Utf8.decode decodeN
  match rest, hne with
  | [b0], _ =>
    have a0 := hat 0 b0 rfl
    have o1 := hout 1 (by simp)
    simp only [Nat.add_zero] at a0
    simp only [Nat.add_zero, a0, o1, blt_iff, bif_eq]
    by_cases h0 : b0 < 128
    · simp [h0]
    · simp [h0, Utf8.runeError]
  | [b0, b1], _ =>
    have a0 := hat 0 b0 rfl
    have a1 := hat 1 b1 rfl
    have i1 := hin 1 (by simp)
    have o2 := hout 2 (by simp)
    simp only [Nat.add_zero] at a0
    simp only [Nat.add_zero, a0, a1, i1, o2, blt_iff, beq_iff, contB_eq, ble_iff, bif_eq]
    simp [Utf8.runeError]
  | [b0, b1, b2], _ =>
    have a0 := hat 0 b0 rfl
    have a1 := hat 1 b1 rfl
    have a2 := hat 2 b2 rfl
    have i1 := hin 1 (by simp)
    have i2 := hin 2 (by simp)
    have o3 := hout 3 (by simp)
    simp only [Nat.add_zero] at a0
    simp only [Nat.add_zero, a0, a1, a2, i1, i2, o3, blt_iff, beq_iff, contB_eq, ble_iff, bif_eq]
    simp [Utf8.runeError, and_assoc]
  | b0 :: b1 :: b2 :: b3 :: rest, _ =>
    have a0 := hat 0 b0 rfl
    have a1 := hat 1 b1 rfl
    have a2 := hat 2 b2 rfl
    have a3 := hat 3 b3 rfl
    have i1 := hin 1 (by simp)
    have i2 := hin 2 (by simp)
    have i3 := hin 3 (by simp)
    simp only [Nat.add_zero] at a0
    simp only [Nat.add_zero, a0, a1, a2, a3, i1, i2, i3, blt_iff, beq_iff, contB_eq, ble_iff, bif_eq]
    simp [Utf8.runeError, and_assoc]

include h he in
theorem oNext_ok {P : Program} {it : Operand} {isS : Bool} {ty : TypeId} (hx : oNext tm s it isS = some r) : ResOK B ρ σ r w ((do pure (.value (← Instr.next (ev it) isS ty)) : Sem Next).run P w) := by
  unfold oNext at hx
  split at hx
  · exact oNextM_ok h he hx
  split at hx
  case h_2 => cases hx
  rename_i i ha
  split at hx
  case h_2 => cases hx
  rename_i l pos hi
  obtain ⟨L, hL, hp⟩ := he it _ ha
  obtain ⟨ob, hob, hz, sb, rfl, hl⟩ := h.here hi hL
  have hp : ev it = .pointer (some ⟨L.blk, 0, none⟩) := by rw [hp, hz]
  have hget := run_getObj (P := P) hob (by simp)
  have hsz : sb.size = l.length := by rw [← hl, bytesNat_len]
  split at hx
  · rename_i hdn
    cases hx
    have : ¬ pos < sb.size := by
      intro hlt
      rw [hsz] at hlt
      have hex : ∀ (n : Nat) (l : List Nat), n < l.length → dropN n l ≠ none := by
        intro n
        induction n with
        | zero => intro l _; rw [dropN_zero]; simp
        | succ n ih => intro l hl; cases l with
          | nil => simp at hl
          | cons a l => rw [dropN_cons]; exact ih l (by simpa using hl)
      exact hex pos l hlt hdn
    refine res_of_val0 h (v := .tuple #[.bool false]) ?_ ⟨_, rfl, _, _, rfl, rfl, rfl⟩
    simp only [Instr.next, hp, Sem.run_bind, hget, Result.andThen_ok, if_neg this, Sem.run_pure]
  · rename_i rest hdn
    obtain ⟨h1, h2⟩ := dropN_eq _ _ _ hdn
    split at hx
    · cases hx
      have : ¬ pos < sb.size := by
        have : (l.drop pos).length = 0 := by rw [← h1]; rfl
        simp at this
        omega
      refine res_of_val0 h (v := .tuple #[.bool false]) ?_ ⟨_, rfl, _, _, rfl, rfl, rfl⟩
      simp only [Instr.next, hp, Sem.run_bind, hget, Result.andThen_ok, if_neg this, Sem.run_pure]
    · rename_i x xs
      split at hx
      rename_i c wd hdec
      cases hx
      have hlt : pos < sb.size := by
        have : (l.drop pos).length = xs.length + 1 := by rw [← h1]; rfl
        simp at this
        omega
      have hd := decodeN_ok sb pos (rest := x :: xs) (by rw [h1, hl]) (by simp)
      rw [hdec] at hd
      have hg := h.gN_le hi (by simp)
      have hupd := Upd.setObj w L.blk (.stringIter sb (pos + wd)) (lt_of_get hob)
      refine res_of_val (v := .tuple #[.bool true, goInt pos, .int .i32 c]) ?_ (hupd.below (h.own i _ L hi hL hg)) (Ext.refl _) (h.upd hi hL hg hupd ⟨hz, sb, rfl, hl⟩) ⟨_, rfl, _, _, rfl, rfl, _, _, rfl, rfl, _, _, rfl, rfl, rfl⟩
      simp only [Instr.next, hp, Sem.run_bind, hget, Result.andThen_ok, if_pos hlt, hd, run_setObj (P := P) _ hob (by simp), Sem.run_pure]
end
end Go.Eng

/-! The engine's operations are the machine's: conversions. No condition. -/
namespace Go.Eng
open Go.RowKit

section
variable {E : Env} {B : Base} {ρ ρ' : Rho} {σ : Nat → Value} {s s' : St} {w w' : World} {tm : T AV} {ev : Operand → Value} {r : Res}

theorem bytesA_rel : ∀ (l : List UInt8), VRs ρ σ (bytesA (l.map UInt8.toNat)) (l.map fun b => Value.int .u8 b.toNat)
  | [] => rfl
  | _ :: l => ⟨_, _, rfl, rfl, bytesA_rel l⟩
theorem bytesA_len : ∀ (l : List Nat), (bytesA l).length = l.length
  | [] => rfl
  | _ :: l => by simp [bytesA, bytesA_len l]

theorem strOf_rel : ∀ {l : List AV} {r : List Nat} {vs : List Value}, strOf l = some r → VRs ρ σ l vs → vs = (r.map (Int.ofNat)).map (Value.int .u8) ∧ ∀ n ∈ r, n < 256
  | [], r, vs, h, hv => by simp [strOf] at h; subst h; cases hv; simp
  | a :: l, r, vs, h, hv => by
    obtain ⟨v, rest, rfl, ha, hl⟩ := hv
    unfold strOf at h
    split at h
    · rename_i heq; cases heq
    · rename_i n l' heq
      cases heq
      split at h
      · rename_i hb
        split at h
        · rename_i r' hr
          cases h
          obtain ⟨h1, h2⟩ := strOf_rel hr hl
          simp only [VR] at ha
          rw [blt_iff] at hb
          refine ⟨by rw [ha, h1]; rfl, fun m hm => ?_⟩
          rcases List.mem_cons.1 hm with rfl | hm
          · simpa using hb
          · exact h2 m hm
        · cases h
      · cases h
    · cases h

theorem str_of_nums {r : List Nat} (h : ∀ n ∈ r, n < 256) : bytesNat ((r.map Int.ofNat).foldl (fun r n => r.push (UInt8.ofNat n.toNat)) ByteArray.empty) = r := by
  rw [foldl_push_bytes]
  unfold bytesNat
  simp only [ByteArray.data_empty, Array.toList_append, List.map_map, List.nil_append]
  induction r with
  | nil => rfl
  | cons a r ih =>
    simp only [List.map_cons, Function.comp_apply, Int.ofNat_eq_natCast, Int.toNat_natCast]
    congr 1
    · have := h a (by simp)
      simp; omega
    · exact ih fun n hn => h n (by simp [hn])

theorem runes_rel (sb : ByteArray) : ∀ (n i : Nat) (acc : List AV) (va : Array Value), VRs ρ σ acc va.toList → VRs ρ σ (acc ++ runesN n ((bytesNat sb).drop i)) (Conv.runesFrom sb n i va).toList := by
  intro n
  induction n with
  | zero => intro i acc va h; simpa [runesN, Conv.runesFrom] using h
  | succ n ih =>
    intro i acc va h
    unfold Conv.runesFrom
    by_cases hlt : i < sb.size
    · rw [if_pos hlt]
      have hne : (bytesNat sb).drop i ≠ [] := by
        intro e
        have := congrArg List.length e
        rw [List.length_drop, bytesNat_len] at this
        simp at this; omega
      have hd := decodeN_ok sb i rfl hne
      cases hrest : (bytesNat sb).drop i with
      | nil => exact absurd hrest hne
      | cons b0 rest =>
        rw [hrest] at hd
        unfold runesN
        cases hdec : decodeN (b0 :: rest) with
        | mk c wd =>
          rw [hdec] at hd
          simp only [hd]
          have := ih (i + wd) (acc ++ [.int .i32 (Int.ofNat c)]) (va.push (.int .i32 (Int.ofNat c))) (by
            rw [Array.toList_push]; exact h.append ⟨_, _, rfl, rfl, rfl⟩)
          rw [List.append_assoc] at this
          have e : (b0 :: rest).drop wd = (bytesNat sb).drop (i + wd) := by rw [← hrest, List.drop_drop]
          rw [e]
          exact this
    · rw [if_neg hlt]
      have : (bytesNat sb).drop i = [] := by
        apply List.eq_nil_of_length_eq_zero
        rw [List.length_drop, bytesNat_len]; omega
      rw [this]
      have : runesN (n + 1) [] = [] := rfl
      rw [this, List.append_nil]; exact h

theorem upd_freeze {w : World} {g : Nat} {c : Array Value} {t : TypeId} {lo hi : Nat} (h : w.heap[g]? = some (.cells c t (lo, hi))) (o n : Nat) (hn : n ≠ 0) :
    Upd w g (.cells c t (if lo == hi then (o, o + n) else (min lo o, max hi (o + n)))) (w.freeze ⟨g, o, none⟩ n) := by
  unfold World.freeze
  rw [if_neg hn]
  refine ⟨rfl, rfl, rfl, by simp, ?_, fun k hk => ?_⟩
  · simp [Array.getElem?_modify, h]
  · simp only [Array.getElem?_modify]
    rw [if_neg (Ne.symm hk)]

theorem New.upd {w w1 w2 : World} {a b : Obj} (h : New w a w1) (k : Upd w1 w.heap.size b w2) : New w b w2 :=
  ⟨k.os.trans h.os, k.tape.trans h.tape, k.output.trans h.output, k.size.trans h.size, k.here, fun i hi => (k.other i (by omega)).trans (h.other i hi)⟩

theorem newCells_ok' (h : R B ρ σ s w) {cs : List AV} {el : TypeId} {i : Nat} (hn : newCells s cs el = some (i, s')) {c : Array Value} {fr : Nat × Nat} (hc : ∃ vs ex, c.toList = vs ++ ex ∧ VRs ρ σ cs vs)
    (k : New w (.cells c el fr) w') (hfr : ∀ o, o < c.size → ¬ (fr.1 ≤ o ∧ o < fr.2)) : ∃ ρ', Ext ρ ρ' ∧ R B ρ' σ s' w' ∧ ρ' i = some ⟨w.heap.size, 0, c.size⟩ := by
  obtain ⟨vs, ex, hc, hv⟩ := hc
  have hl := hv.length
  unfold newCells at hn
  split at hn
  case h_2 => cases hn
  rename_i hel
  refine h.new hn k ⟨c, el, fr, rfl, fun _ => (elOf_head hel).symm, fun _ => rfl, ?_, ?_, by simp, fun _ => hfr⟩
  · rw [List.drop_zero, hc, ← hl, List.take_left']
    · exact hv
    · rfl
  · have : c.size = vs.length + ex.length := by rw [← List.length_append, ← hc]; simp
    show cs.length ≤ c.size
    omega

theorem cap_ge (w : World) (need old : Nat) (e : TypeId) : need ≤ (Question.appendCap need old e).cut (w.tape w.drawn (.appendCap need old e)) := by simp [Question.cut]

theorem run_choose_cap {P : Program} (need old : Nat) (e : TypeId) : ∃ c, need ≤ c ∧ (choose (.appendCap need old e)).run P w = .ok c { w with drawn := w.drawn + 1 } :=
  ⟨_, cap_ge w need old e, by simp [run_choose, Question.forced]⟩

theorem bytesOfSl_spec {src : TypeId} (h : bytesOfSl E src = true) : ∃ e, und E src = some (.slice e) ∧ und E e = some (.int .u8) := by
  unfold bytesOfSl at h
  split at h
  · rename_i e hs
    split at h
    · rename_i he; exact ⟨e, hs, he⟩
    · cases h
  · cases h

variable (ok : EnvOK E) (h : R B ρ σ s w) (he : EvOK ρ σ tm ev)

include ok h in
theorem convertA_ok {src dst : TypeId} {x : AV} (hx : convertA E s src dst x = some r) {v : Value} (hv : VR ρ σ x v) :
    ResOK B ρ σ r w ((do pure (.value (← convert src dst v)) : Sem Next).run E.P w) := by
  unfold convertA at hx
  split at hx
  · cases hx
  rename_i ds hs
  have hus := ok.run_und hs w
  split at hx
  · rename_i k hd
    have hud := ok.run_und hd w
    unfold convIntA at hx
    split at hx
    case h_2 => cases hx
    rename_i k' n
    cases hx
    simp only [VR] at hv; subst hv
    refine res_of_val0 h (v := .int k (k.wrap n)) ?_ (by rw [fastWrap_eq]; rfl)
    simp only [convert, Sem.run_bind, hus, hud, Result.andThen_ok]
    cases ds <;> rfl
  · rename_i hd
    have hud := ok.run_und hd w
    unfold convStrA at hx
    split at hx
    · rename_i k n
      cases hx
      simp only [VR] at hv; subst hv
      refine res_of_val0 h (v := .string (Utf8.encode n)) ?_ ⟨_, rfl, rfl⟩
      simp only [convert, Sem.run_bind, hus, hud, Result.andThen_ok]
      cases ds <;> rfl
    · rename_i l
      cases hx
      obtain ⟨sb, rfl, hl⟩ := hv
      refine res_of_val0 h (v := .string sb) ?_ ⟨_, rfl, hl⟩
      simp only [convert, Sem.run_bind, hus, hud, Result.andThen_ok]
      cases ds <;> rfl
    · split at hx
      case h_2 => cases hx
      rename_i hb
      cases hx
      obtain ⟨e, he1, he2⟩ := bytesOfSl_spec hb
      simp only [VR] at hv; subst hv
      refine res_of_val0 h (v := .string .empty) ?_ ⟨_, rfl, rfl⟩
      rw [run_convert_bytes_string w src dst e _ _ _ (ok.und he1) (ok.und he2) (ok.und hd)]
      rfl
    · rename_i i o n c sz
      split at hx
      · cases hx
      rename_i hb
      simp only [Bool.and_eq_true] at hb
      have hsz : sz = 1 := Nat.eq_of_beq_eq_true hb.2
      subst hsz
      obtain ⟨e, he1, he2⟩ := bytesOfSl_spec hb.1
      obtain ⟨L, ad, c', hL, rfl, h1, h2, h3⟩ := hv
      split at hx
      · cases hx
        refine res_of_val0 h (v := .string .empty) ?_ ⟨_, rfl, rfl⟩
        rw [run_convert_bytes_string w src dst e _ _ _ (ok.und he1) (ok.und he2) (ok.und hd)]
        have := run_bytesToString (P := E.P) w ad 0 c' [] (by simp [loadCells, loadCellsFrom])
        simpa using this
      · rename_i n
        split at hx
        case h_2 => cases hx
        rename_i cs el wr hi
        split at hx
        case h_2 => cases hx
        rename_i l hl
        split at hx
        case h_2 => cases hx
        rename_i rr hrr
        cases hx
        obtain ⟨cc, bt, fr, hcc, _, hvs, hle, hszb, _⟩ := h.block hi hL
        obtain ⟨g1, g2⟩ := sub_eq hl
        obtain ⟨rfl, h4⟩ := h3.resolve_left (by omega)
        have hload := run_loadCells_known (P := E.P) (o := L.sh + o) (n := n + 1) hcc (by omega)
        have hrel : VRs ρ σ l ((cc.toList.drop (L.sh + o)).take (n + 1)) := by
          rw [g1]
          have := (hvs.drop o).take (n + 1)
          rw [take_sub _ _ _ _ g2, List.drop_drop] at this
          exact this
        obtain ⟨e1, e2⟩ := strOf_rel hrr hrel
        rw [e1] at hload
        refine res_of_val0 h (v := .string _) ?_ ⟨_, rfl, str_of_nums e2⟩
        rw [run_convert_bytes_string w src dst e _ _ _ (ok.und he1) (ok.und he2) (ok.und hd)]
        exact run_bytesToString (P := E.P) w _ (n + 1) c' _ hload
    · cases hx
  · rename_i e hd
    have hud := ok.run_und hd w
    unfold convSlA at hx
    split at hx
    case h_2 => cases hx
    rename_i l
    obtain ⟨sb, rfl, hl⟩ := hv
    split at hx
    · rename_i hde
      have hue := ok.run_und hde w
      split at hx
      case h_2 => cases hx
      rename_i i s' hn
      cases hx
      obtain ⟨cp, hcp, hch⟩ := run_choose_cap (P := E.P) (w := w) sb.size 0 e
      -- the block, frozen behind its end
      let C : Array Value := sb.data.map (fun b => .int .u8 b.toNat) ++ Array.replicate (cp - sb.size) (.int .u8 0)
      have hC : C.size = cp := by
        have : sb.data.size = sb.size := rfl
        simp [C, this]; omega
      have k1 : New w (.cells C e) (({ w with drawn := w.drawn + 1 } : World).alloc (.cells C e)) := New.of_same (Same.drew w) (New.alloc _ _)
      have k2 := k1.upd (upd_freeze k1.here C.size 1 (by simp))
      obtain ⟨ρ', hρ, hR, hi⟩ := newCells_ok' h hn (c := C) ⟨sb.data.toList.map (fun b => Value.int .u8 b.toNat), (Array.replicate (cp - sb.size) (Value.int .u8 0)).toList, by simp [C], by rw [← hl]; exact bytesA_rel _⟩ k2 (fun o ho => by simp; omega)
      have hlen : len l = sb.size := by rw [len_eq, ← hl, bytesNat_len]
      refine res_of_val (v := .slice (some ⟨w.heap.size, 0, none⟩) sb.size cp) ?_ (k2.below h.size) hρ hR ⟨_, _, cp, hi, by rw [hlen], by rw [hlen]; exact hcp, by rw [hlen]; exact hcp, .inr ⟨by simp, by simp [hC]⟩⟩
      have hsh : (shape w.heap.size).run E.P (({ w with drawn := w.drawn + 1 } : World).alloc (.cells C e)) = .ok (some (e, C.size)) (({ w with drawn := w.drawn + 1 } : World).alloc (.cells C e)) := by
        rw [run_shape]; congr 1
        unfold World.shape?
        rw [k1.here]
      have hnr : (newRow e C).run E.P ({ w with drawn := w.drawn + 1 } : World) = .ok ⟨w.heap.size, 0, none⟩ (({ w with drawn := w.drawn + 1 } : World).alloc (.cells C e)) := run_newRow e C
      have main : (Conv.stringToBytes e sb).run E.P w = .ok (.slice (some ⟨w.heap.size, 0, none⟩) sb.size cp) ((({ w with drawn := w.drawn + 1 } : World).alloc (.cells C e)).freeze ⟨w.heap.size, C.size, none⟩ 1) := by
        simp only [Conv.stringToBytes, Sem.run_bind, hch, Result.andThen_ok]
        rw [show (newRow e (sb.data.map (fun b => Value.int .u8 b.toNat) ++ Array.replicate (cp - sb.size) (Value.int .u8 0))) = newRow e C from rfl, hnr]
        simp only [Result.andThen_ok, markStringish, Sem.run_bind, hsh, run_freeze, Sem.run_pure]
      simp only [convert, Sem.run_bind, hus, hud, Result.andThen_ok]
      cases ds <;> (simp only [hue, Result.andThen_ok]; exact main)
    · rename_i hde
      have hue := ok.run_und hde w
      split at hx
      case h_2 => cases hx
      rename_i i s' hn
      cases hx
      let X := Conv.runesFrom sb sb.size 0 #[]
      obtain ⟨cp, hcp, hch⟩ := run_choose_cap (P := E.P) (w := w) X.size 0 e
      let C : Array Value := X ++ Array.replicate (cp - X.size) (.int .i32 0)
      have hC : C.size = cp := by simp [C]; omega
      have k1 : New w (.cells C e) (({ w with drawn := w.drawn + 1 } : World).alloc (.cells C e)) := New.of_same (Same.drew w) (New.alloc _ _)
      have hlen : len l = sb.size := by rw [len_eq, ← hl, bytesNat_len]
      have hrel : VRs ρ σ (runesN (len l) l) X.toList := by
        have := runes_rel (ρ := ρ) (σ := σ) sb sb.size 0 [] #[] rfl
        rw [List.nil_append, List.drop_zero, hl] at this
        rw [hlen]; exact this
      obtain ⟨ρ', hρ, hR, hi⟩ := newCells_ok' h hn (c := C) ⟨X.toList, (Array.replicate (cp - X.size) (Value.int .i32 0)).toList, by simp [C], hrel⟩ k1 (fun o ho => by simp)
      have hX : len (runesN (len l) l) = X.size := by rw [len_eq, ← hrel.length]; simp
      refine res_of_val (v := .slice (some ⟨w.heap.size, 0, none⟩) X.size cp) ?_ (k1.below h.size) hρ hR ⟨_, _, cp, hi, by rw [hX], by rw [hX]; exact hcp, by rw [hX]; exact hcp, .inr ⟨by simp, by simp [hC]⟩⟩
      have hnr : (newRow e C).run E.P ({ w with drawn := w.drawn + 1 } : World) = .ok ⟨w.heap.size, 0, none⟩ (({ w with drawn := w.drawn + 1 } : World).alloc (.cells C e)) := run_newRow e C
      have main : (Conv.stringToRunes e sb).run E.P w = .ok (.slice (some ⟨w.heap.size, 0, none⟩) X.size cp) (({ w with drawn := w.drawn + 1 } : World).alloc (.cells C e)) := by
        unfold Conv.stringToRunes
        simp only [Sem.run_bind]
        rw [show (choose (.appendCap (Conv.runesFrom sb sb.size 0 #[]).size 0 e)).run E.P w = _ from hch]
        simp only [Result.andThen_ok]
        rw [show (newRow e (Conv.runesFrom sb sb.size 0 #[] ++ Array.replicate (cp - (Conv.runesFrom sb sb.size 0 #[]).size) (Value.int .i32 0))) = newRow e C from rfl, hnr]
        rfl
      simp only [convert, Sem.run_bind, hus, hud, Result.andThen_ok]
      cases ds <;> (simp only [hue, Result.andThen_ok]; exact main)
    · cases hx
  · rename_i hd
    have hud := ok.run_und hd w
    unfold convUnA at hx
    split at hx
    case h_2 => cases hx
    rename_i i o
    split at hx
    case h_2 => cases hx
    rename_i t hst
    split at hx
    case h_2 => cases hx
    rename_i z hsz
    split at hx
    case h_2 => cases hx
    rename_i cs el wr hi
    split at hx
    case h_2 => cases hx
    rename_i hlt
    cases hx
    rw [blt_iff, len_eq] at hlt
    have hlt : o < cs.length := by simpa using hlt
    obtain ⟨L, hL, rfl⟩ := hv
    obtain ⟨cc, bt, fr, hcc, _, hvs, hle, hszb, _⟩ := h.block hi hL
    refine res_of_val0 h (v := .pointer (some ⟨L.blk, L.sh + o, none⟩)) ?_ ⟨L, hL, rfl⟩
    have hshape : w.shape? L.blk = some (bt, cc.size) := by unfold World.shape?; rw [hcc]
    have hs' : und E src = some (.pointer t) := hst
    have hus' := ok.run_und hst w
    have hs1 : (sizeOf t).run E.P w = .ok (z + 1) w := ok.run_sz hsz w
    have hno : ¬ (L.sh + o ≥ cc.size) := by omega
    have hseen : (Conv.seenAt ⟨L.blk, L.sh + o, none⟩).run E.P w = .ok ⟨L.blk, L.sh + o, none⟩ w := by
      simp [Conv.seenAt, viewAt, hshape]
    have hcin : (cellsIn L.blk).run E.P w = .ok (some cc.size) w := by simp [cellsIn, hshape]
    have main : (Conv.unsafePointer src dst (.pointer (some ⟨L.blk, L.sh + o, none⟩))).run E.P w = .ok (.pointer (some ⟨L.blk, L.sh + o, none⟩)) w := by
      simp only [Conv.unsafePointer, Sem.run_bind, hus', hud, Result.andThen_ok, hseen, hcin, hs1]
      simp [hno]
    rw [hst] at hs; cases hs
    simp only [convert, Sem.run_bind, hus, hud, Result.andThen_ok]
    exact main
  · rename_i u hd
    have hud := ok.run_und hd w
    unfold convPtrA at hx
    split at hx
    case h_2 => cases hx
    rename_i i o
    split at hx
    case h_2 => cases hx
    rename_i hst
    split at hx
    case h_2 => cases hx
    rename_i z hsz
    split at hx
    case h_2 => cases hx
    rename_i cs el wr hi
    split at hx
    case h_2 => cases hx
    rename_i hc
    cases hx
    simp only [Bool.and_eq_true] at hc
    obtain ⟨⟨⟨hc1, hc2⟩, hc3⟩, hc4⟩ := hc
    have hc1 : el = u := Nat.eq_of_beq_eq_true hc1
    have hc3 : o = 0 := Nat.eq_of_beq_eq_true hc3
    have hc4 : cs.length = z + 1 := by rw [← len_eq]; exact Nat.eq_of_beq_eq_true hc4
    subst hc1; subst hc3
    obtain ⟨L, hL, rfl⟩ := hv
    obtain ⟨cc, bt, fr, hcc, hbt, hvs, hle, hszb, _⟩ := h.block hi hL
    have hel := elOf_head hc2
    rw [blt_iff] at hc2
    have hc2 : el < 1000000 := by simpa using hc2
    have hbt' : bt = el := (hbt (Nat.ne_of_lt (Nat.lt_trans hc2 (by decide : 1000000 < unkT)))).trans hel
    have hsh0 : L.sh = 0 := h.head hi hL (by unfold tailN; exact hc2)
    refine res_of_val0 h (v := .pointer (some ⟨L.blk, L.sh + 0, none⟩)) ?_ ⟨L, hL, rfl⟩
    rw [hsh0]
    have hshape : w.shape? L.blk = some (el, cc.size) := by unfold World.shape?; rw [hcc, hbt']
    have hus' := ok.run_und hst w
    have hs1 : (sizeOf el).run E.P w = .ok (z + 1) w := ok.run_sz hsz w
    have hcells : E.P.cellsOf el = z + 1 := by
      obtain ⟨i, hi, hs⟩ := ok.sz hsz
      simp [Program.cellsOf, hi, hs]
    have hseen : (Conv.seenAt ⟨L.blk, 0 + 0, none⟩).run E.P w = .ok ⟨L.blk, 0 + 0, none⟩ w := by
      simp [Conv.seenAt, viewAt, hshape]
    have hvar : (variablesAt ⟨L.blk, 0 + 0, none⟩ el 1).run E.P w = .ok true w := by
      have hdep : ∃ d, E.P.depth = d + 1 := ⟨_, rfl⟩
      obtain ⟨d, hd'⟩ := hdep
      have hq : 1 ≤ cc.size / (z + 1) := by rw [Nat.le_div_iff_mul_le (by omega)]; omega
      have : liesAt E.P E.P.depth el (cc.size / (z + 1)) 0 el 1 = true := by
        rw [hd']
        unfold liesAt
        rw [hd']
        unfold rowAt
        have hsl : sameLayout E.P (d + 1) el el = true := by unfold sameLayout; simp
        have h1 : (decide (1 ≤ cc.size / (z + 1))) = true := by simpa using hq
        simp [hcells, hsl, hq]
      simp [variablesAt, hshape, hcells, this]
    have main : (Conv.unsafePointer src dst (.pointer (some ⟨L.blk, 0 + 0, none⟩))).run E.P w = .ok (.pointer (some ⟨L.blk, 0 + 0, none⟩)) w := by
      simp only [Conv.unsafePointer, Sem.run_bind, hus', hud, Result.andThen_ok, hseen, hs1, hvar]
      simp
    rw [hst] at hs; cases hs
    simp only [convert, Sem.run_bind, hus, hud, Result.andThen_ok]
    exact main
  · cases hx
end
end Go.Eng

/- The engine: an abstract machine that runs closed code of any program, and its proof: part 5 of 14. No condition. -/
import Derived.Test.YtjhnpcnamclfbaaGreatDoorE04
/-! The engine's operations are the machine's: slicing, maps, ranges over strings. No condition. -/
namespace Go.Eng
open Go.RowKit

section
variable {E : Env} {B : Base} {ρ ρ' : Rho} {σ : Nat → Value} {s s' : St} {w w' : World} {tm : T AV} {ev : Operand → Value} {r : Res}

theorem optOf_spec (he : EvOK ρ σ tm ev) {d : Nat} {x : Option Operand} {n : Nat} (h : optOf tm d x = some n) :
    (x = none ∧ n = d) ∨ ∃ k, x.map ev = some (.int k (Int.ofNat n)) := by
  unfold optOf at h
  split at h
  · cases h; exact .inl ⟨rfl, rfl⟩
  · split at h
    · rename_i v hv
      obtain ⟨k, hk⟩ := natOf_spec h (he _ _ hv)
      exact .inr ⟨k, by simp [hk]⟩
    · cases h

theorem run_bound {P : Program} {k : IntKind} {n y : Nat} (h : n ≤ y) (code : BoundsCode) : (Instr.sliceBound (.int k (Int.ofNat n)) y code).run P w = .ok n w := by
  have : 0 ≤ (Int.ofNat n) ∧ (Int.ofNat n) ≤ (y : Int) := ⟨by simp, by simpa using h⟩
  simp only [Instr.sliceBound, asIntOf, Sem.run_bind, Sem.run_pure, Result.andThen_ok]
  rw [if_pos this]
  simp

theorem bounds_ok {P : Program} (he : EvOK ρ σ tm ev) {isS : Bool} {len cap l h : Nat} {lo hi : Option Operand} (h1 : optOf tm 0 lo = some l) (h2 : optOf tm len hi = some h) (hl : l ≤ h) (hc : h ≤ cap) :
    (Instr.sliceBounds isS len cap (lo.map ev) (hi.map ev) none).run P w = .ok (l, h, cap) w := by
  rcases optOf_spec he h1 with ⟨rfl, rfl⟩ | ⟨k1, e1⟩ <;> rcases optOf_spec he h2 with ⟨rfl, rfl⟩ | ⟨k2, e2⟩
  · simp [Instr.sliceBounds]
  · rw [e2]; simp only [Instr.sliceBounds, Option.map_none, Sem.run_bind, Sem.run_pure, Result.andThen_ok, run_bound hc]
  · rw [e1]; simp only [Instr.sliceBounds, Option.map_none, Sem.run_bind, Sem.run_pure, Result.andThen_ok, run_bound hl]
  · rw [e1, e2]; simp only [Instr.sliceBounds, Sem.run_bind, Sem.run_pure, Result.andThen_ok, run_bound hl, run_bound hc]

theorem bytesNat_extract (b : ByteArray) (l h : Nat) : bytesNat (b.extract l h) = ((bytesNat b).drop l).take (h - l) := by
  unfold bytesNat
  rw [ByteArray.data_extract, Array.toList_extract, List.extract_eq_take_drop, List.map_take, List.map_drop]

variable (ok : EnvOK E) (h : R B ρ σ s w) (he : EvOK ρ σ tm ev)

include ok h he in
theorem oSlice_ok {t : TypeId} {x : Operand} {lo hi mx : Option Operand} (hx : oSlice E tm s t x lo hi mx = some r) :
    ResOK B ρ σ r w ((do pure (.value (← Instr.sliceAt t (ev x) (lo.map ev) (hi.map ev) (mx.map ev))) : Sem Next).run E.P w) := by
  unfold oSlice at hx
  split at hx
  · cases hx
  split at hx
  case h_2 => cases hx
  rename_i a ha
  obtain ⟨v, hv, rfl⟩ := val1_spec hx
  unfold sliceA at hv
  split at hv
  · cases hv
  rename_i l hlo
  split at hv
  · rename_i b hd
    split at hv
    · cases hv
    rename_i hh hhi
    split at hv
    case h_2 => cases hv
    rename_i hle
    split at hv
    case h_2 => cases hv
    rename_i rr hsub
    cases hv
    have hle := Nat.le_of_ble_eq_true hle
    obtain ⟨sb, hp, rfl⟩ := he x _ ha
    obtain ⟨h1, h2⟩ := sub_eq hsub
    rw [bytesNat_len] at h2
    have hu := ok.run_und hd w
    rw [len_eq, bytesNat_len] at hhi
    have hb := bounds_ok (P := E.P) (w := w) (isS := false) (cap := sb.size) he hlo hhi hle (by omega)
    refine res_of_val0 h (v := .string (sb.extract l hh)) ?_ ⟨_, rfl, ?_⟩
    · simp only [Instr.sliceAt, Sem.run_bind, hu, Result.andThen_ok, hp, Instr.slice, Option.map_none, Option.isSome_none, Bool.false_eq_true, if_false, hb, Sem.run_pure]
    · rw [h1, bytesNat_extract]
  · rename_i e hd
    split at hv
    case h_2 => cases hv
    rename_i z hhi hsz
    split at hv
    case h_2 => cases hv
    rename_i hl0
    cases hv
    have hl0 : l = 0 := Nat.eq_of_beq_eq_true hl0
    subst hl0
    have hp := he x _ ha
    simp only [VR] at hp
    have hu := ok.run_und hd w
    have hs := ok.run_sz hsz w
    have hb := bounds_ok (P := E.P) (w := w) (isS := true) (cap := 0) he hlo hhi (Nat.le_refl _) (Nat.le_refl _)
    refine res_of_val0 h (v := .slice none 0 0) ?_ rfl
    simp only [Instr.sliceAt, Sem.run_bind, hu, Result.andThen_ok, hp, Instr.slice, Option.map_none, hb, hs, Sem.run_pure, if_true, Nat.sub_self]
  · rename_i e i o n c sz hd
    split at hv
    · cases hv
    rename_i hh hhi
    split at hv
    case h_2 => cases hv
    rename_i hc
    cases hv
    simp only [Bool.and_eq_true] at hc
    obtain ⟨⟨hc1, hc2⟩, hc3⟩ := hc
    have hc1 := Nat.le_of_ble_eq_true hc1
    have hc2 := Nat.le_of_ble_eq_true hc2
    have hsz : szOf E e = some sz := by
      split at hc3
      · rename_i z hz; rw [hz, Nat.eq_of_beq_eq_true hc3]
      · cases hc3
    obtain ⟨L, ad, c', hL, hp, h1, h2, h3⟩ := he x _ ha
    have hu := ok.run_und hd w
    have hs := ok.run_sz hsz w
    have hb := bounds_ok (P := E.P) (w := w) (isS := true) (cap := c') he hlo hhi hc1 (by omega)
    by_cases hm : c' = l
    · refine res_of_val0 h (v := .slice (some ad) (hh - l) (c' - l)) ?_ ⟨L, ad, c' - l, hL, rfl, by omega, by omega, .inl (by omega)⟩
      simp only [Instr.sliceAt, Sem.run_bind, hu, Result.andThen_ok, hp, Instr.slice, Option.map_none, hb, hs, Sem.run_pure, if_pos hm]
    · obtain ⟨rfl, h4⟩ := h3.resolve_left (by omega)
      refine res_of_val0 h (v := .slice (some ⟨L.blk, L.sh + o + l * sz, none⟩) (hh - l) (c' - l)) ?_ ⟨L, _, c' - l, hL, rfl, by omega, by omega, .inr ⟨by rw [Nat.add_assoc], ?_⟩⟩
      · simp only [Instr.sliceAt, Sem.run_bind, hu, Result.andThen_ok, hp, Instr.slice, Option.map_none, hb, hs, Sem.run_pure, if_neg hm, Option.map_some, addr_add]
      · have : o + l * sz + (c' - l) * sz = o + c' * sz := by
          rw [Nat.add_assoc, ← Nat.add_mul]; congr 2; omega
        omega
  · rename_i n e i o hd
    split at hv
    case h_2 => cases hv
    rename_i z hh hsz hhi
    split at hv
    case h_2 => cases hv
    rename_i hc
    cases hv
    simp only [Bool.and_eq_true] at hc
    have hc1 := Nat.le_of_ble_eq_true hc.1.1
    have hc2 := Nat.le_of_ble_eq_true hc.1.2
    have hc3 := hc.2
    split at hc3
    case h_2 => cases hc3
    rename_i cs el wr hi
    have hc3 := Nat.le_of_ble_eq_true hc3
    rw [len_eq] at hc3
    obtain ⟨L, hL, hp⟩ := he x _ ha
    have hu := ok.run_und hd w
    have hs : (sizeOf e).run E.P w = .ok (z + 1) w := ok.run_sz hsz w
    have hb := bounds_ok (P := E.P) (w := w) (isS := false) (cap := n) he hlo hhi hc1 hc2
    obtain ⟨c, bt, fr, hcc, _, hvs, hle, hsz2, _⟩ := h.block hi hL
    by_cases hm : n = l
    · refine res_of_val0 h (v := .slice (some ⟨L.blk, L.sh + o, none⟩) (hh - l) (n - l)) ?_ ⟨L, _, n - l, hL, rfl, by omega, Nat.le_refl _, .inl (by omega)⟩
      simp only [Instr.sliceAt, Sem.run_bind, hu, Result.andThen_ok, hp, Instr.sureAddr, Option.map_none, hb, hs, Sem.run_pure, if_pos hm]
    · refine res_of_val0 h (v := .slice (some ⟨L.blk, L.sh + o + l * (z + 1), none⟩) (hh - l) (n - l)) ?_ ⟨L, _, n - l, hL, rfl, by omega, Nat.le_refl _, .inr ⟨by rw [Nat.add_assoc], ?_⟩⟩
      · simp only [Instr.sliceAt, Sem.run_bind, hu, Result.andThen_ok, hp, Instr.sureAddr, Option.map_none, hb, hs, Sem.run_pure, if_neg hm, addr_add]
      · have : o + l * (z + 1) + (n - l) * (z + 1) = o + n * (z + 1) := by
          rw [Nat.add_assoc, ← Nat.add_mul]; congr 2; omega
        omega
  · cases hv
end
end Go.Eng

/-! The engine's operations are the machine's: maps, ranges over strings. No condition. -/
namespace Go.Eng
open Go.RowKit

section
variable {E : Env} {B : Base} {ρ ρ' : Rho} {σ : Nat → Value} {s s' : St} {w w' : World} {tm : T AV} {ev : Operand → Value} {r : Res}

theorem eqC_true {a b : AV} (h : eqC a b = some true) : a = b := by
  unfold eqC at h
  split at h
  · simp at h; subst h; rfl
  · split at h
    · rename_i hk
      have hk := eqK_true hk
      rw [eqInt_eq] at h
      simp at h
      subst hk; subst h; rfl
    · cases h
  · rw [eqNats_eq] at h; simp at h; subst h; rfl
  · cases h
theorem eqCs_true : ∀ {l m : List AV}, eqCs l m = some true → l = m
  | [], [], _ => rfl
  | [], _ :: _, h => by simp [eqCs] at h
  | _ :: _, [], h => by simp [eqCs] at h
  | a :: l, b :: m, h => by
    unfold eqCs at h
    split at h
    · rename_i hc; rw [eqC_true hc, eqCs_true h]
    · cases h
    · cases h
theorem eqKey_true {a b : AV} (h : eqKey a b = some true) : a = b := by
  unfold eqKey at h
  split at h
  · rw [eqCs_true h]
  · exact eqC_true h

theorem fit_unique {d : TypeDesc} {a : AV} (hf : fitT d a = true) {u v : Value} (hu : VR ρ σ a u) (hv : VR ρ σ a v) : u = v ∧ ∀ n, Instr.sameBits n u v = true := by
  unfold fitT at hf
  split at hf
  · simp only [VR] at hu hv; subst hu; subst hv; exact ⟨rfl, fun n => by simp [Instr.sameBits]⟩
  · simp only [VR] at hu hv; subst hu; subst hv; exact ⟨rfl, fun n => by simp [Instr.sameBits]⟩
  · obtain ⟨x, rfl, hx⟩ := hu
    obtain ⟨y, rfl, hy⟩ := hv
    have := bytesNat_inj (hx.trans hy.symm)
    subst this
    exact ⟨rfl, fun n => by simp only [Instr.sameBits, beq_toListBytes, beq_self_eq_true]⟩
  · cases hf

theorem fitFs_unique : ∀ {fs : List Field} {l : List AV} {us vs : List Value}, fitFs E fs l = true → VRs ρ σ l us → VRs ρ σ l vs → us = vs ∧ ∀ n, (us.zip vs).all (fun (x, y) => Instr.sameBits n x y) = true
  | [], [], us, vs, _, hu, hv => by cases hu; cases hv; exact ⟨rfl, fun n => rfl⟩
  | [], _ :: _, _, _, h, _, _ => by simp [fitFs] at h
  | _ :: _, [], _, _, h, _, _ => by simp [fitFs] at h
  | f :: fs, a :: l, _, _, h, ⟨u, us, rfl, hu, hus⟩, ⟨v, vs, rfl, hv, hvs⟩ => by
    unfold fitFs at h
    split at h
    case h_2 => cases h
    split at h
    case h_2 => cases h
    rename_i hft
    obtain ⟨e1, b1⟩ := fit_unique hft hu hv
    obtain ⟨e2, b2⟩ := fitFs_unique h hus hvs
    exact ⟨by rw [e1, e2], fun n => by simp [b1 n]; simpa using b2 n⟩

/-- A key of a type that the engine knows. -/
theorem key_bits {t : TypeId} {k : AV} (hf : keyFits E t k = true) {u v : Value} (hu : VR ρ σ k u) (hv : VR ρ σ k v) : Instr.sameBits 10000 u v = true := by
  unfold keyFits at hf
  split at hf
  · split at hf
    case h_2 => cases hf
    obtain ⟨us, rfl, hus⟩ := hu
    obtain ⟨vs, rfl, hvs⟩ := hv
    obtain ⟨e, b⟩ := fitFs_unique hf hus hvs
    have e : us = vs := by cases us; cases vs; simp at e; rw [e]
    subst e
    show Instr.sameBits (9999 + 1) _ _ = true
    unfold Instr.sameBits
    simp only [beq_self_eq_true, Bool.true_and]
    exact b 9999
  · exact (fit_unique hf hu hv).2 _
  · cases hf

theorem checkKey_flat {P : Program} {t : TypeId} {d : TypeDesc} (hd : P.underlying t = some d) {a : AV} (hf : fitT d a = true) {v : Value} (hv : VR ρ σ a v) (e : Bool) (n : Nat) : (Instr.checkKey e (n + 1) t v).run P w = .ok () w := by
  unfold fitT at hf
  split at hf
  · simp only [VR] at hv; subst hv
    unfold Instr.checkKey
    simp [underlying, hd]
  · simp only [VR] at hv; subst hv
    unfold Instr.checkKey
    simp [underlying, hd]
  · obtain ⟨x, rfl, _⟩ := hv
    unfold Instr.checkKey
    simp [underlying, hd]
  · cases hf

theorem checkKey_fields (ok : EnvOK E) {e : Bool} {n : Nat} {xs : Array Value} : ∀ (fs : List Field) (i : Nat) (la : List AV), flatFs E fs i = true → fitFs E fs la = true → VRs ρ σ la (xs.toList.drop i) →
    (forIn (m := Sem) fs PUnit.unit (fun f _ => do
      if f.name ≠ "_" then do
        let __do_lift ← part f.type xs f.offset
        Instr.checkKey e (n + 1) f.type __do_lift
        pure (ForInStep.yield PUnit.unit)
      else pure (ForInStep.yield PUnit.unit))).run E.P w = .ok PUnit.unit w
  | [], i, la, _, _, _ => by rfl
  | f :: fs, i, [], _, h, _ => by simp [fitFs] at h
  | f :: fs, i, a :: la, hflat, hfit, ha => by
    obtain ⟨va, ra, ea, hra, hla⟩ := ha
    have hxa : xs[i]? = some va := by
      have : (xs.toList.drop i)[0]? = some va := by rw [ea]; rfl
      rw [List.getElem?_drop] at this; simpa using this
    have hla' : VRs ρ σ la (xs.toList.drop (i + 1)) := by
      have : xs.toList.drop (i + 1) = ra := by rw [← List.drop_drop (i := 1) (j := i), ea]; rfl
      rw [this]; exact hla
    simp only [flatFs, Bool.and_eq_true, Bool.not_eq_true', beq_eq_false_iff_ne] at hflat
    obtain ⟨⟨⟨h1, h2⟩, h3⟩, h4⟩ := hflat
    have ho : f.offset = i := Nat.eq_of_beq_eq_true h2
    unfold fitFs at hfit
    split at hfit
    case h_2 => cases hfit
    rename_i d hd
    split at hfit
    case h_2 => cases hfit
    rename_i hft
    have p1 := part_flat (w := w) ok h1 ho hxa
    have p2 := checkKey_flat (w := w) (ok.und hd) hft hra e n
    have ih := checkKey_fields ok (e := e) (n := n) fs (i + 1) la h4 hfit hla'
    have hne : f.name ≠ "_" := h3
    simp only [List.forIn_cons, Sem.run_bind, if_pos hne, p1, p2, Result.andThen_ok, Sem.run_pure, ih]

theorem checkKey_ok (ok : EnvOK E) {t : TypeId} {k : AV} (ht : keyT E t = true) (hf : keyFits E t k = true) {v : Value} (hv : VR ρ σ k v) (e : Bool) : (Instr.checkKey e 10000 t v).run E.P w = .ok () w := by
  show (Instr.checkKey e (9998 + 1 + 1) t v).run E.P w = .ok () w
  generalize 9998 = n
  unfold keyFits at hf
  split at hf
  · rename_i fs hd
    split at hf
    case h_2 => cases hf
    obtain ⟨xs, rfl, hc⟩ := hv
    unfold keyT at ht
    rw [hd] at ht
    simp only [Bool.and_eq_true] at ht
    have hu := ok.run_und hd w
    have hcf := checkKey_fields (w := w) (e := e) (n := n) ok fs.toList 0 _ ht.1 hf (by simpa using hc)
    unfold Instr.checkKey
    simp only [Sem.run_bind, hu, Result.andThen_ok]
    rw [← Array.forIn_toList]
    rw [hcf]
    rfl
  · rename_i d hd hs
    exact checkKey_flat (ok.und hs) hf hv e _
  · cases hf

/-- The first place of a key. -/
noncomputable def idxA (k : AV) : List (AV × AV × Nat) → Option Nat
  | [] => none
  | (q, _, _) :: es => match eqKey k q with
    | some true => some 0
    | _ => (idxA k es).map (· + 1)

/-- What a search comes to: nothing, or a place. -/
theorem findNow_ok {d : TypeDesc} {k : AV} (hf : fitT d k = true) {vk : Value} (hk : VR ρ σ k vk) : ∀ (es : List (AV × AV × Nat)) (ms : List MapEntry) (i : Nat) (x : Option AV), MR ρ σ es ms → findA k es = some x →
    ∃ res, Instr.findNow d vk ms i = some res ∧ ((x = none ∧ res = none) ∨ ∃ a j q b e, x = some a ∧ es[j]? = some (q, a, b) ∧ ms[j]? = some e ∧ q = k ∧ res = some (i + j, e.val) ∧ idxA k es = some j)
  | [], ms, i, x, hm, h => by
    cases hm
    simp [findA] at h; subst h
    exact ⟨none, rfl, .inl ⟨rfl, rfl⟩⟩
  | (q, a, b) :: es, ms, i, x, hm, h => by
    obtain ⟨e, r, rfl, hq, ha, hb, hr⟩ := hm
    have hsn : ∀ c, eqKey k q = some c → Instr.sameNow d vk e.key = some c := by
      intro c hc
      have hc : eqC k q = some c := by
        unfold eqKey at hc
        split at hc
        · simp [fitT] at hf
        · exact hc
      unfold fitT at hf
      split at hf
      · rename_i kk n
        simp only [VR] at hk; subst hk
        cases q <;> simp only [eqC] at hc <;> first | (cases hc; done) | skip
        rename_i k2 m
        simp only [VR] at hq; rw [hq]
        split at hc
        · rename_i hkk
          have hkk := eqK_true hkk
          subst hkk
          cases hc
          simp [Instr.sameNow, eqInt_eq]
        · cases hc
      · simp only [VR] at hk; subst hk
        cases q <;> simp only [eqC] at hc <;> first | (cases hc; done) | skip
        simp only [VR] at hq; rw [hq]
        cases hc
        rfl
      · obtain ⟨sx, rfl, rfl⟩ := hk
        cases q <;> simp only [eqC] at hc <;> first | (cases hc; done) | skip
        obtain ⟨sy, hsy, rfl⟩ := hq
        rw [hsy]
        cases hc
        simp only [Instr.sameNow, eqNats_eq, bytesNat_beq, beq_toListBytes]
      · cases hf
    unfold findA at h
    split at h
    · rename_i hc
      cases h
      refine ⟨some (i, e.val), ?_, .inr ⟨a, 0, q, b, e, rfl, rfl, rfl, (eqKey_true hc).symm, rfl, by simp [idxA, hc]⟩⟩
      simp only [Instr.findNow, hsn _ hc]
    · rename_i hc
      obtain ⟨res, h1, h2⟩ := findNow_ok hf hk es r (i + 1) x hr h
      refine ⟨res, ?_, ?_⟩
      · simp only [Instr.findNow, hsn _ hc, h1]
      · rcases h2 with h2 | ⟨a', j, q', b', e', r1, r2, r3, r4, r5, r6⟩
        · exact .inl h2
        · exact .inr ⟨a', j + 1, q', b', e', r1, by simpa using r2, by simpa using r3, r4, by rw [r5]; congr 2; omega, by simp [idxA, hc, r6]⟩
    · cases h

theorem findAsking_ok (ok : EnvOK E) {t : TypeId} {fs : Array Field} (hd : und E t = some (.struct fs)) (ht : flatFs E fs.toList 0 = true) (hst : E.P.stoodInHeld t = false) {l : List AV} (hf : fitFs E fs.toList l = true) {vk : Value} (hk : VR ρ σ (.agg l) vk) :
    ∀ (es : List (AV × AV × Nat)) (ms : List MapEntry) (i : Nat) (x : Option AV), MR ρ σ es ms → findA (.agg l) es = some x →
    ∃ res, (Instr.findAsking t vk ms i).run E.P w = .ok res w ∧ ((x = none ∧ res = none) ∨ ∃ a j q b e, x = some a ∧ es[j]? = some (q, a, b) ∧ ms[j]? = some e ∧ q = .agg l ∧ res = some (i + j, e.val) ∧ idxA (.agg l) es = some j)
  | [], ms, i, x, hm, h => by
    cases hm
    simp [findA] at h; subst h
    exact ⟨none, rfl, .inl ⟨rfl, rfl⟩⟩
  | (q, a, b) :: es, ms, i, x, hm, h => by
    obtain ⟨e, r, rfl, hq, ha, hb, hr⟩ := hm
    have hsn : ∀ c, eqKey (.agg l) q = some c → (Op.equal t vk e.key).run E.P w = .ok c w := by
      intro c hc
      cases q <;> simp only [eqKey, eqC] at hc <;> first | (cases hc; done) | skip
      rename_i m
      obtain ⟨xs, rfl, hxs⟩ := hk
      obtain ⟨ys, hys, hys'⟩ := hq
      rw [hys]
      show (Op.equalIn (9998 + 1 + 1) t _ _).run E.P w = _
      have hff : E.P.fieldsOf t = fs := by simp [Program.fieldsOf, ok.und hd]
      rw [run_equalIn_struct w _ t xs ys (by rw [hff]; exact ok.und hd) hst, hff]
      exact eqFields_ok ok fs.toList 0 l m c ht hf (by simpa using hxs) (by simpa using hys') hc
    unfold findA at h
    split at h
    · rename_i hc
      cases h
      refine ⟨some (i, e.val), ?_, .inr ⟨a, 0, q, b, e, rfl, rfl, rfl, (eqKey_true hc).symm, rfl, by simp [idxA, hc]⟩⟩
      simp only [Instr.findAsking, Sem.run_bind, hsn _ hc, Result.andThen_ok, if_true, Sem.run_pure]
    · rename_i hc
      obtain ⟨res, h1, h2⟩ := findAsking_ok ok hd ht hst hf hk es r (i + 1) x hr h
      refine ⟨res, ?_, ?_⟩
      · simp only [Instr.findAsking, Sem.run_bind, hsn _ hc, Result.andThen_ok, Bool.false_eq_true, if_false, h1]
      · rcases h2 with h2 | ⟨a', j, q', b', e', r1, r2, r3, r4, r5, r6⟩
        · exact .inl h2
        · exact .inr ⟨a', j + 1, q', b', e', r1, by simpa using r2, by simpa using r3, r4, by rw [r5]; congr 2; omega, by simp [idxA, hc, r6]⟩
    · cases h

theorem findKey_ok (ok : EnvOK E) {t : TypeId} {k : AV} (ht : keyT E t = true) (hf : keyFits E t k = true) {vk : Value} (hk : VR ρ σ k vk) {es : List (AV × AV × Nat)} {ms : List MapEntry} {x : Option AV} (hm : MR ρ σ es ms)
    (h : findA k es = some x) : ∃ res, (Instr.findKey t vk ms).run E.P w = .ok res w ∧ ((x = none ∧ res = none) ∨ ∃ a j q b e, x = some a ∧ es[j]? = some (q, a, b) ∧ ms[j]? = some e ∧ q = k ∧ res = some (j, e.val) ∧ idxA k es = some j) := by
  unfold keyFits at hf
  split at hf
  · rename_i fs hd
    split at hf
    case h_2 => cases hf
    rename_i l
    unfold keyT at ht
    rw [hd] at ht
    simp only [Bool.and_eq_true, Bool.not_eq_true'] at ht
    have hu := ok.run_und hd w
    cases ms with
    | nil =>
      have : es = [] := by
        cases es with
        | nil => rfl
        | cons p es => obtain ⟨q, a, b⟩ := p; obtain ⟨e, r, h', _⟩ := hm; cases h'
      subst this
      simp [findA] at h; subst h
      refine ⟨none, ?_, .inl ⟨rfl, rfl⟩⟩
      simp only [Instr.findKey, Sem.run_bind, hu, Result.andThen_ok, Instr.findNow, Sem.run_pure]
    | cons e ms =>
      obtain ⟨res, h1, h2⟩ := findAsking_ok (w := w) ok hd ht.1 ht.2 hf hk es (e :: ms) 0 x hm h
      refine ⟨res, ?_, by simpa using h2⟩
      obtain ⟨xs, rfl, _⟩ := hk
      simp only [Instr.findKey, Sem.run_bind, hu, Result.andThen_ok, Instr.findNow, Instr.sameNow, h1]
  · rename_i d hd hs
    have hu := ok.run_und hs w
    obtain ⟨res, h1, h2⟩ := findNow_ok hf hk es ms 0 x hm h
    refine ⟨res, ?_, by simpa using h2⟩
    simp only [Instr.findKey, Sem.run_bind, hu, Result.andThen_ok, h1, Sem.run_pure]
  · cases hf

theorem MR.val {es : List (AV × AV × Nat)} {ms : List MapEntry} (h : MR ρ σ es ms) : ∀ {j : Nat} {q a : AV} {b : Nat} {e : MapEntry}, es[j]? = some (q, a, b) → ms[j]? = some e → VR ρ σ a e.val ∧ VR ρ σ q e.key ∧ e.born = b := by
  induction es generalizing ms with
  | nil => intro j q a b e h1; simp at h1
  | cons p es ih =>
    obtain ⟨q0, a0, b0⟩ := p
    obtain ⟨e0, r, rfl, hq, ha, hb, hr⟩ := h
    intro j q a b e h1 h2
    cases j with
    | zero => simp at h1 h2; obtain ⟨rfl, rfl, rfl⟩ := h1; subst h2; exact ⟨ha, hq, hb⟩
    | succ j => exact ih hr (by simpa using h1) (by simpa using h2)

theorem R.mapOf (h : R B ρ σ s w) {i : Nat} {es : List (AV × AV × Nat)} {c : Nat} (hi : s.get i = some (.map es c)) {L : Loc} (hL : ρ i = some L) : L.sh = 0 ∧ ∃ m, w.heap[L.blk]? = some (.map m c) ∧ MR ρ σ es m.toList := by
  obtain ⟨ob, hob, z, m, rfl, hm⟩ := h.here hi hL
  exact ⟨z, m, hob, hm⟩

theorem run_getObj {P : Program} {g : Nat} {o : Obj} (h : w.heap[g]? = some o) (hc : ∀ c t f, o ≠ .cells c t f) : (getObj g).run P w = .ok o w := by
  simp only [getObj, Sem.run, h]
theorem run_setObj {P : Program} {g : Nat} {o : Obj} (o' : Obj) (h : w.heap[g]? = some o) (hc : ∀ c t f, o ≠ .cells c t f) : (setObj g o').run P w = .ok () { w with heap := w.heap.setIfInBounds g o' } := by
  simp only [setObj, Sem.run, h]

theorem lookupA_ok (ok : EnvOK E) (h : R B ρ σ s w) {t : TypeId} {m k v : AV} {c : Bool} (hx : lookupA E s t m k c = some v) {vm vk : Value} (hm : VR ρ σ m vm) (hk : VR ρ σ k vk) :
    ∃ u, (Instr.lookup t vm vk c).run E.P w = .ok u w ∧ VR ρ σ v u := by
  unfold lookupA at hx
  split at hx
  case h_2 => cases hx
  rename_i kt et hd
  split at hx
  · cases hx
  rename_i hkf
  simp only [Bool.and_eq_true] at hkf
  have hu := ok.run_und hd w
  simp only at hx
  split at hx
  · cases hx
  rename_i es hes
  have hes' : ∃ ms : Array MapEntry, ((vm = .map none ∧ ms = #[]) ∨ ∃ r cc, vm = .map (some r) ∧ w.heap[r]? = some (.map ms cc)) ∧ MR ρ σ es ms.toList := by
    split at hes
    · cases hes
      simp only [VR] at hm; subst hm
      exact ⟨#[], .inl ⟨rfl, rfl⟩, rfl⟩
    · split at hes
      · rename_i i es' cc hi
        cases hes
        obtain ⟨L, hL, rfl⟩ := hm
        obtain ⟨_, ms, hob, hmr⟩ := h.mapOf hi hL
        exact ⟨ms, .inr ⟨_, _, rfl, hob⟩, hmr⟩
      · cases hes
    · cases hes
  obtain ⟨ms, hms, hmr⟩ := hes'
  have hck := checkKey_ok (w := w) ok hkf.1 hkf.2 hk ms.isEmpty
  have run : ∀ (x : Option AV), findA k es = some x → (∀ a, x = some a → ∃ u, VR ρ σ a u ∧ (Instr.lookup t vm vk c).run E.P w = .ok (if c then .tuple #[u, .bool true] else u) w) ∧
      (x = none → ∀ z, zeroOf E et = some z → ∃ u, VR ρ σ z u ∧ (Instr.lookup t vm vk c).run E.P w = .ok (if c then .tuple #[u, .bool false] else u) w) := by
    intro x hx
    obtain ⟨res, h1, h2⟩ := findKey_ok (w := w) ok hkf.1 hkf.2 hk hmr hx
    refine ⟨fun a ha => ?_, fun hxn z hz => ?_⟩
    · subst ha
      rcases h2 with ⟨h3, _⟩ | ⟨a', j, q, b, e, h3, h4, h5, h6, h7, _⟩
      · cases h3
      · cases h3
        refine ⟨e.val, (hmr.val h4 h5).1, ?_⟩
        rcases hms with ⟨rfl, rfl⟩ | ⟨r, cc, rfl, hob⟩
        · simp at h5
        · simp only [Instr.lookup, Sem.run_bind, hu, Result.andThen_ok, run_getObj (P := E.P) hob (by simp), hck, h1, h7, Sem.run_pure]
    · subst hxn
      rcases h2 with ⟨_, h3⟩ | ⟨a', j, q, b, e, h3, _⟩
      · obtain ⟨zv, hz1, hz2⟩ := ok.run_zero hz w
        refine ⟨zv, hz2 ρ σ, ?_⟩
        rcases hms with ⟨rfl, rfl⟩ | ⟨r, cc, rfl, hob⟩
        · simp only [Instr.lookup, Sem.run_bind, hu, Result.andThen_ok, hck, h1, h3, hz1, Sem.run_pure]
        · simp only [Instr.lookup, Sem.run_bind, hu, Result.andThen_ok, run_getObj (P := E.P) hob (by simp), hck, h1, h3, hz1, Sem.run_pure]
      · cases h3
  split at hx
  · cases hx
  · rename_i a ha
    rw [findF_eq] at ha
    cases hx
    obtain ⟨u, hu1, hu2⟩ := (run _ ha).1 a rfl
    cases c with
    | true => exact ⟨_, hu2, _, rfl, u, _, rfl, hu1, _, _, rfl, rfl, rfl⟩
    | false => exact ⟨_, hu2, hu1⟩
  · rename_i ha
    rw [findF_eq] at ha
    split at hx
    case h_2 => cases hx
    rename_i z hz
    cases hx
    obtain ⟨u, hu1, hu2⟩ := (run _ ha).2 rfl z hz
    cases c with
    | true => exact ⟨_, hu2, _, rfl, u, _, rfl, hu1, _, _, rfl, rfl, rfl⟩
    | false => exact ⟨_, hu2, hu1⟩
end
end Go.Eng

/-! The engine's operations are the machine's: map stores, ranges over strings. No condition. -/
namespace Go.Eng
open Go.RowKit

section
variable {E : Env} {B : Base} {ρ ρ' : Rho} {σ : Nat → Value} {s s' : St} {w w' : World} {tm : T AV} {ev : Operand → Value} {r : Res}

theorem setA_spec {k v : AV} {c : Nat} : ∀ {es es' : List (AV × AV × Nat)} {c' : Nat}, setA k v c es = some (es', c') →
    (findA k es = some none ∧ es' = es ++ [(k, v, c)] ∧ c' = c + 1) ∨
    (∃ j a b, findA k es = some (some a) ∧ idxA k es = some j ∧ es[j]? = some (k, a, b) ∧ es' = es.set j (k, v, b) ∧ c' = c)
  | [], es', c', h => by simp [setA] at h; obtain ⟨rfl, rfl⟩ := h; exact .inl ⟨rfl, rfl, rfl⟩
  | (q, u, b) :: es, es', c', h => by
    unfold setA at h
    split at h
    · rename_i hc
      simp at h
      obtain ⟨rfl, rfl⟩ := h
      have hq := eqKey_true hc
      subst hq
      exact .inr ⟨0, u, b, by simp [findA, hc], by simp [idxA, hc], rfl, rfl, rfl⟩
    · rename_i hc
      split at h
      · rename_i es2 c2 hr
        simp at h
        obtain ⟨rfl, rfl⟩ := h
        rcases setA_spec hr with ⟨h1, h2, h3⟩ | ⟨j, a, b', h1, h2, h3, h4, h5⟩
        · exact .inl ⟨by simp [findA, hc, h1], by simp [h2], h3⟩
        · exact .inr ⟨j + 1, a, b', by simp [findA, hc, h1], by simp [idxA, hc, h2], by simpa using h3, by simp [h4], h5⟩
      · cases h
    · cases h

theorem MR.push {es : List (AV × AV × Nat)} {ms : List MapEntry} (h : MR ρ σ es ms) {k v : AV} {c : Nat} {vk vv : Value} (hk : VR ρ σ k vk) (hv : VR ρ σ v vv) : MR ρ σ (es ++ [(k, v, c)]) (ms ++ [{ key := vk, val := vv, born := c }]) := by
  induction es generalizing ms with
  | nil => cases h; exact ⟨_, [], rfl, hk, hv, rfl, rfl⟩
  | cons p es ih => obtain ⟨q, a, b⟩ := p; obtain ⟨e, r, rfl, hq, ha, hb, hr⟩ := h; exact ⟨e, _, rfl, hq, ha, hb, ih hr⟩
theorem MR.set {es : List (AV × AV × Nat)} {ms : List MapEntry} (h : MR ρ σ es ms) {j : Nat} {k v a : AV} {b : Nat} (hj : es[j]? = some (k, a, b)) {vk vv : Value} (hk : VR ρ σ k vk) (hv : VR ρ σ v vv) :
    MR ρ σ (es.set j (k, v, b)) (ms.modify j fun e => { e with key := vk, val := vv }) := by
  induction es generalizing ms j with
  | nil => simp at hj
  | cons p es ih =>
    obtain ⟨q, a', b'⟩ := p
    obtain ⟨e, r, rfl, hq, ha, hb, hr⟩ := h
    cases j with
    | zero => simp at hj; obtain ⟨rfl, rfl, rfl⟩ := hj; exact ⟨_, r, rfl, hk, hv, hb, hr⟩
    | succ j => exact ⟨e, _, by simp, hq, ha, hb, ih hr (by simpa using hj)⟩

theorem R.gN_le (h : R B ρ σ s w) {i : Nat} {b : Blk} (hi : s.get i = some b) (hb : ∀ cs el, b ≠ .cells cs el false) (hm : ∀ es c, b ≠ .map es c) : gN ≤ i := by
  rcases Nat.lt_or_ge i gN with hlt | hge
  · rcases h.glob i b hi hlt with ⟨cs, el, e⟩ | ⟨es, c, e⟩
    · exact absurd e (hb cs el)
    · exact absurd e (hm es c)
  · exact hge

theorem mapUpdateA_ok (ok : EnvOK E) (h : R B ρ σ s w) {t : TypeId} {m k v : AV} (hx : mapUpdateA E s t m k v = some s') {vm vk vv : Value} (hm : VR ρ σ m vm) (hk : VR ρ σ k vk) (hv : VR ρ σ v vv) :
    ∃ w', (Instr.mapUpdate t vm vk vv).run E.P w = .ok () w' ∧ Kept B.b w w' ∧ R B ρ σ s' w' := by
  unfold mapUpdateA at hx
  split at hx
  case h_2 => cases hx
  rename_i kt et hd
  split at hx
  · cases hx
  rename_i hkf
  simp only [Bool.and_eq_true] at hkf
  split at hx
  case h_2 => cases hx
  rename_i i
  split at hx
  case h_2 => cases hx
  rename_i hge
  split at hx
  case h_2 => cases hx
  rename_i es c hi
  split at hx
  case h_2 => cases hx
  rename_i es' c' hset
  rw [setF_eq] at hset
  cases hx
  obtain ⟨L, hL, rfl⟩ := hm
  obtain ⟨hz, ms, hob, hmr⟩ := h.mapOf hi hL
  have hu := ok.run_und hd w
  have hck := checkKey_ok (w := w) ok hkf.1 hkf.2 hk false
  have hg : gN ≤ i := Nat.le_of_ble_eq_true hge
  have hget := run_getObj (P := E.P) hob (by simp)
  have hupd : ∀ o, Upd w L.blk o { w with heap := w.heap.setIfInBounds L.blk o } := fun o => Upd.setObj w L.blk o (lt_of_get hob)
  have hset' : ∀ o, (setObj L.blk o).run E.P w = .ok () { w with heap := w.heap.setIfInBounds L.blk o } := fun o => run_setObj (P := E.P) o hob (by simp)
  rcases setA_spec hset with ⟨h1, hes, hcc⟩ | ⟨j, a, b, h1, h2, h3, hes, hcc⟩ <;> subst hes <;> subst hcc
  · obtain ⟨res, r1, r2⟩ := findKey_ok (w := w) ok hkf.1 hkf.2 hk hmr h1
    rcases r2 with ⟨_, rfl⟩ | ⟨a', j, q, b, e, r3, _⟩
    · refine ⟨_, ?_, (hupd (.map (ms.push { key := vk, val := vv, born := c }) (c + 1))).below (h.own i _ L hi hL hg), h.upd hi hL hg (hupd _) ⟨hz, _, rfl, ?_⟩⟩
      · simp only [Instr.mapUpdate, Sem.run_bind, hu, Result.andThen_ok, hget, hck, r1, hset']
      · simpa using hmr.push hk hv
    · cases r3
  · obtain ⟨res, r1, r2⟩ := findKey_ok (w := w) ok hkf.1 hkf.2 hk hmr h1
    rcases r2 with ⟨r3, _⟩ | ⟨a', j', q, b', e, r3, r4, r5, r6, r7, r8⟩
    · cases r3
    · cases r3
      rw [h2] at r8; cases r8
      have r5' : ms[j]? = some e := by simpa using r5
      have hbits : Instr.sameBits 10000 e.key vk = true := key_bits hkf.2 (r6 ▸ (hmr.val r4 r5).2.1) hk
      refine ⟨_, ?_, (hupd (.map (ms.modify j fun e => { e with key := vk, val := vv }) c')).below (h.own i _ L hi hL hg), h.upd hi hL hg (hupd _) ⟨hz, _, rfl, ?_⟩⟩
      · simp only [Instr.mapUpdate, Sem.run_bind, hu, Result.andThen_ok, hget, hck, r1, r7, r5', Option.map_some, Option.getD_some, Instr.keyThatStays, hbits, if_true, Sem.run_pure, hset']
      · have := hmr.set h3 hk hv
        simpa using this

variable (ok : EnvOK E) (h : R B ρ σ s w) (he : EvOK ρ σ tm ev)

include ok h he in
theorem oLookup_ok {t : TypeId} {x ix : Operand} {c : Bool} (hx : oLookup E tm s t x ix c = some r) : ResOK B ρ σ r w ((do pure (.value (← Instr.lookup t (ev x) (ev ix) c)) : Sem Next).run E.P w) := by
  unfold oLookup at hx
  split at hx
  · cases hx
  rename_i a ha
  split at hx
  case h_2 => cases hx
  rename_i b hb
  obtain ⟨v, hv, rfl⟩ := val1_spec hx
  obtain ⟨u, hu, hr⟩ := lookupA_ok ok h hv (he x a ha) (he ix b hb)
  exact res_of_val0 h hu hr

include ok h he in
theorem oUpdate_ok {t : TypeId} {m k x : Operand} (hx : oUpdate E tm s t m k x = some r) : ResOK B ρ σ r w ((do Instr.mapUpdate t (ev m) (ev k) (ev x); pure .skip : Sem Next).run E.P w) := by
  unfold oUpdate at hx
  split at hx
  · cases hx
  rename_i a ha
  split at hx
  · cases hx
  rename_i b hb
  split at hx
  · cases hx
  rename_i v hv
  split at hx
  case h_2 => cases hx
  rename_i s' hs
  cases hx
  obtain ⟨w', hw, hbl, hR⟩ := mapUpdateA_ok ok h hs (he m a ha) (he k b hb) (he x v hv)
  exact res_of_unit hw hbl (Ext.refl _) hR

include ok h he in
theorem oRange_ok {t : TypeId} {x : Operand} (hx : oRange E tm s t x = some r) : ResOK B ρ σ r w ((do pure (.value (← Instr.range t (ev x))) : Sem Next).run E.P w) := by
  unfold oRange at hx
  split at hx
  · rename_i hd
    split at hx
    case h_2 => cases hx
    rename_i l ha
    split at hx
    case h_2 => cases hx
    rename_i i s' hn
    cases hx
    obtain ⟨sb, hp, hl⟩ := he x _ ha
    obtain ⟨ρ', hρ, hR, hi⟩ := h.new (e := 0) hn (New.alloc w (.stringIter sb 0)) ⟨rfl, sb, rfl, hl⟩
    refine res_of_val (v := .pointer (some ⟨w.heap.size, 0, none⟩)) ?_ ((New.alloc w _).below h.size) hρ hR ⟨_, hi, rfl⟩
    have hu := ok.run_und hd w
    simp [Instr.range, hu, hp]
  · rename_i hd
    have hu := ok.run_und hd w
    split at hx
    · rename_i ha
      split at hx
      case h_2 => cases hx
      rename_i i s' hn
      cases hx
      have hp : ev x = .map none := he x _ ha
      obtain ⟨ρ', hρ, hR, hi⟩ := h.new (e := 0) hn (New.alloc w (.mapIter none 0 #[] 0)) ⟨rfl, none, rfl, .inl ⟨rfl, rfl⟩⟩
      refine res_of_val (v := .pointer (some ⟨w.heap.size, 0, none⟩)) ?_ ((New.alloc w _).below h.size) hρ hR ⟨_, hi, rfl⟩
      simp [Instr.range, hu, hp]
    · rename_i j ha
      split at hx
      case h_2 => cases hx
      rename_i es clock hj
      split at hx
      case h_2 => cases hx
      rename_i i s' hn
      cases hx
      obtain ⟨D, hD, hp⟩ := he x _ ha
      obtain ⟨_, m, hm, _⟩ := h.mapOf hj hD
      have hg := run_getObj (P := E.P) hm (by simp)
      obtain ⟨ρ', hρ, hR, hi⟩ := h.new (e := 0) hn (New.alloc w (.mapIter (some D.blk) clock #[] clock)) ⟨rfl, some D.blk, rfl, .inr ⟨j, D, rfl, hD, rfl⟩⟩
      refine res_of_val (v := .pointer (some ⟨w.heap.size, 0, none⟩)) ?_ ((New.alloc w _).below h.size) hρ hR ⟨_, hi, rfl⟩
      simp [Instr.range, hu, hp, hg]
    · cases hx
  · cases hx

theorem anyOld_spec {ρ : Rho} {σ : Nat → Value} {last : Nat} : ∀ {es : List (AV × AV × Nat)} {ms : List MapEntry}, MR ρ σ es ms → anyOld last es = true → ms.all (fun e => decide (e.born ≥ last)) = false
  | [], _, _, h => by cases h
  | (k, v, b) :: l, _, ⟨e, r, he, hk, hv, hb, hl⟩, h => by
    subst he
    unfold anyOld at h
    simp only [Bool.or_eq_true] at h
    rcases h with h | h
    · have : b < last := Nat.le_of_ble_eq_true h
      rw [List.all_cons]
      have : decide (e.born ≥ last) = false := by rw [hb]; simp; omega
      rw [this]; rfl
    · rw [List.all_cons, anyOld_spec hl h, Bool.and_false]

theorem leftE_spec {ρ : Rho} {σ : Nat → Value} {seen : List Nat} : ∀ {es : List (AV × AV × Nat)} {ms : List MapEntry}, MR ρ σ es ms → MR ρ σ (leftE seen es) (ms.filter fun e => !seen.toArray.contains e.born)
  | [], _, h => by cases h; rfl
  | (k, v, b) :: l, _, ⟨e, r, he, hk, hv, hb, hl⟩ => by
    subst he
    have ih := leftE_spec (seen := seen) hl
    have hm : ∀ l : List Nat, memN b l = decide (b ∈ l) := fun l => by
      induction l with
      | nil => rfl
      | cons a l ih =>
        unfold memN
        rw [ih]
        by_cases e : a = b
        · subst e; simp
        · have e' : Nat.beq a b = false := by
            cases hq : Nat.beq a b with
            | false => rfl
            | true => exact absurd (Nat.eq_of_beq_eq_true hq) e
          simp [e', Ne.symm e]
    have hc : seen.toArray.contains e.born = memN b seen := by rw [hb, hm]; simp
    unfold leftE
    rw [List.filter_cons, hc]
    cases memN b seen with
    | true => simpa using ih
    | false => exact ⟨e, _, by simp, hk, hv, hb, ih⟩

theorem lastN_eq : ∀ l : List Nat, lastN l = l.getLast?
  | [] => rfl
  | [a] => rfl
  | a :: b :: l => by
    have : lastN (a :: b :: l) = lastN (b :: l) := rfl
    rw [this, lastN_eq (b :: l)]; simp [List.getLast?_cons]

theorem findB_spec {ρ : Rho} {σ : Nat → Value} {b : Nat} {k v : AV} : ∀ {es : List (AV × AV × Nat)} {ms : List MapEntry}, MR ρ σ es ms → findB b es = some (k, v) → ∃ e, ms.find? (fun e => e.born == b) = some e ∧ VR ρ σ k e.key ∧ VR ρ σ v e.val
  | [], _, _, h => by cases h
  | (k', v', c) :: l, _, ⟨e, r, he, hk, hv, hb, hl⟩, h => by
    subst he
    unfold findB at h
    split at h
    · rename_i hc
      cases h
      refine ⟨e, ?_, hk, hv⟩
      rw [List.find?_cons, hb, Nat.eq_of_beq_eq_true hc]; simp
    · rename_i hc
      obtain ⟨e', h1, h2, h3⟩ := findB_spec hl h
      refine ⟨e', ?_, h2, h3⟩
      rw [List.find?_cons, hb]
      have : (c == b) = false := by
        cases hq : (c == b) with
        | false => rfl
        | true =>
          have : c = b := by simpa using hq
          subst this; simp at hc
      rw [this]; exact h1

include h he in
theorem oEntry_ok {P : Program} {it : Operand} (hx : oEntry tm s it = some r) : ResOK B ρ σ r w ((do pure (.value (← Instr.entry (ev it))) : Sem Next).run P w) := by
  unfold oEntry at hx
  split at hx
  case h_2 => cases hx
  rename_i i ha
  obtain ⟨L, hL, hp⟩ := he it _ ha
  split at hx
  case h_2 => cases hx
  rename_i j since seen last hi
  obtain ⟨ob, hob, hz, mo, rfl, hmo⟩ := h.here hi hL
  have hp : ev it = .pointer (some ⟨L.blk, 0, none⟩) := by rw [hp, hz]
  have hget := run_getObj (P := P) hob (by simp)
  split at hx
  case h_2 => cases hx
  rename_i b hb
  split at hx
  case h_2 => cases hx
  rename_i es clock hj
  obtain ⟨D, hD, rfl⟩ : ∃ D, ρ j = some D ∧ mo = some D.blk := by
    rcases hmo with ⟨e, _⟩ | ⟨i', D, e, hD, e'⟩
    · cases e
    · cases e; exact ⟨D, hD, e'⟩
  obtain ⟨_, ms, hm, hmr⟩ := h.mapOf hj hD
  have hgm := run_getObj (P := P) hm (by simp)
  split at hx
  case h_2 => cases hx
  rename_i hc
  have hc : clock = last := Nat.eq_of_beq_eq_true hc
  split at hx
  case h_2 => cases hx
  rename_i k v hf
  cases hx
  obtain ⟨e, hfe, hk, hv⟩ := findB_spec hmr hf
  have hback : seen.toArray.back? = some b := by rw [lastN_eq] at hb; simpa using hb
  have hfind : ms.find? (fun e => e.born == b) = some e := by rw [← Array.find?_toList]; exact hfe
  refine res_of_val0 h (v := .tuple #[e.key, e.val]) ?_ ⟨_, rfl, _, _, rfl, hk, _, _, rfl, hv, rfl⟩
  simp only [Instr.entry, hp, Sem.run_bind, hget, Result.andThen_ok, hback, hgm, hc, hfind]
  simp

include h he in
theorem oNextM_ok {P : Program} {it : Operand} {ty : TypeId} (hx : oNextM tm s it = some r) : ResOK B ρ σ r w ((do pure (.value (← Instr.next (ev it) false ty)) : Sem Next).run P w) := by
  unfold oNextM at hx
  split at hx
  case h_2 => cases hx
  rename_i i ha
  obtain ⟨L, hL, hp⟩ := he it _ ha
  split at hx
  · rename_i since seen last hi
    cases hx
    obtain ⟨ob, hob, hz, mo, rfl, hmo⟩ := h.here hi hL
    have hp : ev it = .pointer (some ⟨L.blk, 0, none⟩) := by rw [hp, hz]
    have hget := run_getObj (P := P) hob (by simp)
    obtain rfl : mo = none := by
      rcases hmo with ⟨_, e⟩ | ⟨_, _, e, _⟩
      · exact e
      · cases e
    refine res_of_val0 h (v := .tuple #[.bool false]) ?_ ⟨_, rfl, _, _, rfl, rfl, rfl⟩
    simp only [Instr.next, hp, Sem.run_bind, hget, Result.andThen_ok, Sem.run_pure]
  · rename_i j since seen last hi
    obtain ⟨ob, hob, hz, mo, rfl, hmo⟩ := h.here hi hL
    have hp : ev it = .pointer (some ⟨L.blk, 0, none⟩) := by rw [hp, hz]
    have hget := run_getObj (P := P) hob (by simp)
    split at hx
    case h_2 => cases hx
    rename_i es clock hj
    obtain ⟨D, hD, rfl⟩ : ∃ D, ρ j = some D ∧ mo = some D.blk := by
      rcases hmo with ⟨e, _⟩ | ⟨i', D, e, hD, e'⟩
      · cases e
      · cases e; exact ⟨D, hD, e'⟩
    obtain ⟨_, ms, hm, hmr⟩ := h.mapOf hj hD
    have hgm := run_getObj (P := P) hm (by simp)
    split at hx
    case h_2 => cases hx
    rename_i hc
    have hcond : (!seen.toArray.isEmpty && !ms.isEmpty && ms.all (fun e => decide (e.born ≥ last))) = false := by
      simp only [Bool.or_eq_true] at hc
      rcases hc with (hc | hc) | hc
      · cases seen with
        | nil => rfl
        | cons _ _ => cases hc
      · cases es with
        | nil =>
          have : ms = #[] := Array.ext' (by have h : ms.toList = [] := hmr; simpa using h)
          subst this; simp
        | cons _ _ => cases hc
      · have := anyOld_spec hmr hc
        rw [← Array.all_toList, this, Bool.and_false]
    have hleft := leftE_spec (seen := seen) hmr
    have hfl : (ms.filter fun e => !seen.toArray.contains e.born).toList = ms.toList.filter fun e => !seen.toArray.contains e.born := by simp
    have hg := h.gN_le hi (by simp) (by simp)
    split at hx
    · rename_i hle
      cases hx
      rw [hle] at hleft
      have hemp : (ms.filter fun e => !seen.toArray.contains e.born) = #[] := Array.ext' (by rw [hfl]; exact hleft)
      refine res_of_val0 h (v := .tuple #[.bool false]) ?_ ⟨_, rfl, _, _, rfl, rfl, rfl⟩
      simp only [Instr.next, hp, Sem.run_bind, hget, Result.andThen_ok, hgm, hcond, Bool.false_eq_true, if_false, hemp]
      simp [run_choose, Question.forced]
    · rename_i k v b hle
      split at hx
      case h_2 => cases hx
      rename_i hb
      cases hx
      rw [hle] at hleft
      obtain ⟨e, r', he', hk, hv, hb', hr'⟩ := hleft
      cases hr'
      have hone : (ms.filter fun e => !seen.toArray.contains e.born) = #[e] := Array.ext' (by rw [hfl]; exact he')
      have hlt : e.born < since := by rw [hb']; exact Nat.le_of_ble_eq_true hb
      have hupd := Upd.setObj w L.blk (.mapIter (some D.blk) since (seen.toArray.push e.born) clock) (lt_of_get hob)
      refine res_of_val (v := .tuple #[.bool true, e.key, e.val]) ?_ (hupd.below (h.own i _ L hi hL hg)) (Ext.refl _) (h.upd hi hL hg hupd ⟨hz, some D.blk, by rw [hb']; simp, .inr ⟨j, D, rfl, hD, rfl⟩⟩) ⟨_, rfl, _, _, rfl, rfl, _, _, rfl, hk, _, _, rfl, hv, rfl⟩
      simp only [Instr.next, hp, Sem.run_bind, hget, Result.andThen_ok, hgm, hcond, Bool.false_eq_true, if_false, hone]
      have h1 : ¬ (e.born ≥ since) := by omega
      simp [run_choose, Question.forced, hlt, h1, run_setObj (P := P) _ hob (by simp)]
    · cases hx
  · cases hx

theorem ble_iff (a b : Nat) : Nat.ble a b = decide (a ≤ b) := by
  rw [Bool.eq_iff_iff, Nat.ble_eq]; simp
theorem bif_eq {α : Type} (b : Bool) (x y : α) : bif_ b x y = if b = true then x else y := by cases b <;> rfl
theorem contB_eq (b : Nat) : contB b = (b / 64 == 2) := by unfold contB; rw [beq_iff, Bool.eq_iff_iff]; simp

theorem decodeN_ok (sb : ByteArray) (pos : Nat) : ∀ {rest : List Nat}, rest = (bytesNat sb).drop pos → rest ≠ [] → Utf8.decode sb pos = decodeN rest := by
  intro rest hr hne
  have hlen : rest.length = sb.size - pos := by rw [hr, List.length_drop, bytesNat_len]
  have hat : ∀ k b, rest[k]? = some b → (sb.get! (pos + k)).toNat = b := by
    intro k b hk
    rw [hr, List.getElem?_drop] at hk
    unfold bytesNat at hk
    rw [List.getElem?_map] at hk
    cases hx : sb.data.toList[pos + k]? with
    | none => rw [hx] at hk; cases hk
    | some y =>
      rw [hx] at hk; cases hk
      have hlt : pos + k < sb.data.size := by simpa using (List.getElem?_eq_some_iff.1 hx).1
      have hy : sb.data[pos + k]'hlt = y := by simpa using (List.getElem?_eq_some_iff.1 hx).2
      show (sb.data[pos + k]!).toNat = y.toNat
      rw [getElem!_pos sb.data _ hlt, hy]
  have hin : ∀ k, k < rest.length → (pos + k < sb.size) = True := by
    intro k hk; simp; omega
  have hout : ∀ k, rest.length ≤ k → (pos + k < sb.size) = False := by
    intro k hk; simp; omega
  unfold Utf8.decode decodeN
  match rest, hne with
  | [b0], _ =>
    have a0 := hat 0 b0 rfl
    have o1 := hout 1 (by simp)
    simp only [Nat.add_zero] at a0
    simp only [Nat.add_zero, a0, o1, blt_iff, bif_eq]
    by_cases h0 : b0 < 128
    · simp [h0]
    · simp [h0, Utf8.runeError]
  | [b0, b1], _ =>
    have a0 := hat 0 b0 rfl
    have a1 := hat 1 b1 rfl
    have i1 := hin 1 (by simp)
    have o2 := hout 2 (by simp)
    simp only [Nat.add_zero] at a0
    simp only [Nat.add_zero, a0, a1, i1, o2, blt_iff, beq_iff, contB_eq, ble_iff, bif_eq]
    simp [Utf8.runeError]
  | [b0, b1, b2], _ =>
    have a0 := hat 0 b0 rfl
    have a1 := hat 1 b1 rfl
    have a2 := hat 2 b2 rfl
    have i1 := hin 1 (by simp)
    have i2 := hin 2 (by simp)
    have o3 := hout 3 (by simp)
    simp only [Nat.add_zero] at a0
    simp only [Nat.add_zero, a0, a1, a2, i1, i2, o3, blt_iff, beq_iff, contB_eq, ble_iff, bif_eq]
    simp [Utf8.runeError, and_assoc]
  | b0 :: b1 :: b2 :: b3 :: rest, _ =>
    have a0 := hat 0 b0 rfl
    have a1 := hat 1 b1 rfl
    have a2 := hat 2 b2 rfl
    have a3 := hat 3 b3 rfl
    have i1 := hin 1 (by simp)
    have i2 := hin 2 (by simp)
    have i3 := hin 3 (by simp)
    simp only [Nat.add_zero] at a0
    simp only [Nat.add_zero, a0, a1, a2, a3, i1, i2, i3, blt_iff, beq_iff, contB_eq, ble_iff, bif_eq]
    simp [Utf8.runeError, and_assoc]

include h he in
theorem oNext_ok {P : Program} {it : Operand} {isS : Bool} {ty : TypeId} (hx : oNext tm s it isS = some r) : ResOK B ρ σ r w ((do pure (.value (← Instr.next (ev it) isS ty)) : Sem Next).run P w) := by
  unfold oNext at hx
  split at hx
  · exact oNextM_ok h he hx
  split at hx
  case h_2 => cases hx
  rename_i i ha
  split at hx
  case h_2 => cases hx
  rename_i l pos hi
  obtain ⟨L, hL, hp⟩ := he it _ ha
  obtain ⟨ob, hob, hz, sb, rfl, hl⟩ := h.here hi hL
  have hp : ev it = .pointer (some ⟨L.blk, 0, none⟩) := by rw [hp, hz]
  have hget := run_getObj (P := P) hob (by simp)
  have hsz : sb.size = l.length := by rw [← hl, bytesNat_len]
  split at hx
  · rename_i hdn
    cases hx
    have : ¬ pos < sb.size := by
      intro hlt
      rw [hsz] at hlt
      have hex : ∀ (n : Nat) (l : List Nat), n < l.length → dropN n l ≠ none := by
        intro n
        induction n with
        | zero => intro l _; rw [dropN_zero]; simp
        | succ n ih => intro l hl; cases l with
          | nil => simp at hl
          | cons a l => rw [dropN_cons]; exact ih l (by simpa using hl)
      exact hex pos l hlt hdn
    refine res_of_val0 h (v := .tuple #[.bool false]) ?_ ⟨_, rfl, _, _, rfl, rfl, rfl⟩
    simp only [Instr.next, hp, Sem.run_bind, hget, Result.andThen_ok, if_neg this, Sem.run_pure]
  · rename_i rest hdn
    obtain ⟨h1, h2⟩ := dropN_eq _ _ _ hdn
    split at hx
    · cases hx
      have : ¬ pos < sb.size := by
        have : (l.drop pos).length = 0 := by rw [← h1]; rfl
        simp at this
        omega
      refine res_of_val0 h (v := .tuple #[.bool false]) ?_ ⟨_, rfl, _, _, rfl, rfl, rfl⟩
      simp only [Instr.next, hp, Sem.run_bind, hget, Result.andThen_ok, if_neg this, Sem.run_pure]
    · rename_i x xs
      split at hx
      rename_i c wd hdec
      cases hx
      have hlt : pos < sb.size := by
        have : (l.drop pos).length = xs.length + 1 := by rw [← h1]; rfl
        simp at this
        omega
      have hd := decodeN_ok sb pos (rest := x :: xs) (by rw [h1, hl]) (by simp)
      rw [hdec] at hd
      have hg := h.gN_le hi (by simp) (by simp)
      have hupd := Upd.setObj w L.blk (.stringIter sb (pos + wd)) (lt_of_get hob)
      refine res_of_val (v := .tuple #[.bool true, goInt pos, .int .i32 c]) ?_ (hupd.below (h.own i _ L hi hL hg)) (Ext.refl _) (h.upd hi hL hg hupd ⟨hz, sb, rfl, hl⟩) ⟨_, rfl, _, _, rfl, rfl, _, _, rfl, rfl, _, _, rfl, rfl, rfl⟩
      simp only [Instr.next, hp, Sem.run_bind, hget, Result.andThen_ok, if_pos hlt, hd, run_setObj (P := P) _ hob (by simp), Sem.run_pure]
end
end Go.Eng

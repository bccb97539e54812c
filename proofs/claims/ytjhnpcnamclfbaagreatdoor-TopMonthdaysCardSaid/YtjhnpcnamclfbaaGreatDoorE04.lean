/- The engine: an abstract machine that runs closed code of any program, and its proof: part 4 of 14. No condition. -/
import Derived.Test.YtjhnpcnamclfbaaGreatDoorE03
import Derived.IntWalk
import Derived.Laws.StructEq
/-! The engine's operations are the machine's: the small operations. No condition. -/
namespace Go.Eng
open Go.RowKit

section
variable {E : Env} {B : Base} {ρ ρ' : Rho} {σ : Nat → Value} {s s' : St} {w w' : World} {tm : T AV} {ev : Operand → Value} {r : Res}

theorem res_of_val {P : Program} {x : Sem Value} {a : AV} {v : Value} (hx : x.run P w = .ok v w') (hb : Kept B.b w w') (hρ : Ext ρ ρ') (hR : R B ρ' σ s' w') (hv : VR ρ' σ a v) :
    ResOK B ρ σ (.val a s') w ((do pure (Next.value (← x)) : Sem Next).run P w) := by
  simp only [Sem.run_bind, hx, Result.andThen_ok, Sem.run_pure]
  exact ⟨hb, ρ', hρ, hR, .inl ⟨v, rfl, hv⟩⟩
theorem res_of_val0 {P : Program} (h : R B ρ σ s w) {x : Sem Value} {a : AV} {v : Value} (hx : x.run P w = .ok v w) (hv : VR ρ σ a v) :
    ResOK B ρ σ (.val a s) w ((do pure (Next.value (← x)) : Sem Next).run P w) := res_of_val hx (Kept.refl _ _) (Ext.refl _) h hv
theorem res_of_unit {P : Program} {x : Sem Unit} (hx : x.run P w = .ok () w') (hb : Kept B.b w w') (hρ : Ext ρ ρ') (hR : R B ρ' σ s' w') :
    ResOK B ρ σ (.val undefA s') w ((do x; pure Next.skip : Sem Next).run P w) := by
  simp only [Sem.run_bind, hx, Result.andThen_ok, Sem.run_pure]
  exact ⟨hb, ρ', hρ, hR, .inr ⟨rfl, rfl⟩⟩

theorem run_newRow {P : Program} (elem : TypeId) (c : Array Value) : (newRow elem c).run P w = .ok ⟨w.heap.size, 0, none⟩ (w.alloc (.cells c elem)) := by
  simp [newRow]

theorem elOf_head {el : TypeId} (h : Nat.blt el 1000000 = true) : elOf el = el := by
  have : Nat.ble (el + 1) 1000000 = true := h
  have := Nat.le_of_ble_eq_true this
  unfold elOf tailN
  exact if_pos this

theorem newCells_ok (h : R B ρ σ s w) {cs : List AV} {el : TypeId} {i : Nat} (hn : newCells s cs el = some (i, s')) {c : Array Value} {ex : List Value} (hc : ∃ vs, c.toList = vs ++ ex ∧ VRs ρ σ cs vs)
    (k : New w (.cells c el) w') : ∃ ρ', Ext ρ ρ' ∧ R B ρ' σ s' w' ∧ ρ' i = some ⟨w.heap.size, 0, c.size⟩ := by
  obtain ⟨vs, hc, hv⟩ := hc
  have hl := hv.length
  unfold newCells at hn
  split at hn
  case h_2 => cases hn
  rename_i hel
  refine h.new hn k ⟨c, el, (0, 0), rfl, fun _ => (elOf_head hel).symm, fun _ => rfl, ?_, ?_, by simp, fun _ o _ => by simp⟩
  · rw [List.drop_zero, hc, ← hl, List.take_left']
    · exact hv
    · rfl
  · have : c.size = vs.length + ex.length := by rw [← List.length_append, ← hc]; simp
    show cs.length ≤ c.size
    omega

variable (ok : EnvOK E) (h : R B ρ σ s w) (he : EvOK ρ σ tm ev)

include h he in
theorem oMove_ok {P : Program} {x : Operand} (hx : oMove tm s x = some r) : ResOK B ρ σ r w ((pure (.value (ev x)) : Sem Next).run P w) := by
  obtain ⟨a, ha, rfl⟩ := val1_spec hx
  exact res_val h (he x a ha)

include h he in
theorem oPick_ok {P : Program} {c a b : Operand} (hx : oPick tm s c a b = some r) : ResOK B ρ σ r w ((do pure (.value (if ← asBool (ev c) then ev a else ev b)) : Sem Next).run P w) := by
  unfold oPick at hx
  split at hx
  · rename_i hc
    have hc := he c _ hc
    simp only [VR] at hc
    obtain ⟨x, hx', rfl⟩ := val1_spec hx
    simp only [hc, asBool, Sem.run_bind, Sem.run_pure, Result.andThen_ok, if_true]
    exact res_val h (he _ _ hx')
  · rename_i hc
    have hc := he c _ hc
    simp only [VR] at hc
    obtain ⟨x, hx', rfl⟩ := val1_spec hx
    simp only [hc, asBool, Sem.run_bind, Sem.run_pure, Result.andThen_ok, Bool.false_eq_true, if_false]
    exact res_val h (he _ _ hx')
  · cases hx

include ok h in
theorem oAlloc_ok {t : TypeId} (hx : oAlloc E s t = some r) : ResOK B ρ σ r w ((do pure (.value (← Instr.alloc t true (.tuple #[]))) : Sem Next).run E.P w) := by
  unfold oAlloc at hx
  split at hx
  case h_2 => cases hx
  rename_i z hz
  split at hx
  case h_2 => cases hx
  rename_i i s' hn
  cases hx
  obtain ⟨v, hv, hr⟩ := ok.run_zero hz w
  obtain ⟨ρ', hρ, hR, hi⟩ := newCells_ok h hn (c := v.cells) (ex := []) ⟨v.cells.toList, by simp, (hr ρ σ).cells'⟩ (New.alloc w _)
  refine res_of_val (v := .pointer (some ⟨w.heap.size, 0, none⟩)) ?_ ((New.alloc w _).below h.size) hρ hR ⟨_, hi, by simp⟩
  simp only [Instr.alloc, Sem.run_bind, hv, Result.andThen_ok, newVar, run_newRow, Sem.run_pure]

include h he in
theorem oBox_ok {P : Program} {t : TypeId} {x : Operand} (hx : oBox tm s t x = some r) : ResOK B ρ σ r w ((do pure (.value (← Instr.box t (ev x))) : Sem Next).run P w) := by
  unfold oBox at hx
  split at hx
  case h_2 => cases hx
  rename_i a ha
  split at hx
  case h_2 => cases hx
  split at hx
  case h_2 => cases hx
  rename_i i s' hn
  cases hx
  have hr := he x a ha
  obtain ⟨ρ', hρ, hR, hi⟩ := newCells_ok h hn (c := (ev x).cells) (ex := []) ⟨(ev x).cells.toList, by simp, hr.cells'⟩ (New.alloc w _)
  refine res_of_val (v := .pointer (some ⟨w.heap.size, 0, none⟩)) ?_ ((New.alloc w _).below h.size) hρ hR ⟨_, hi, by simp⟩
  simp only [Instr.box, newVar, Sem.run_bind, run_newRow, Result.andThen_ok, Sem.run_pure]

include ok h he in
theorem oLoad_ok {t : TypeId} {x : Operand} (hx : oLoad E tm s t x = some r) : ResOK B ρ σ r w ((do pure (.value (← Instr.loadAt t (ev x))) : Sem Next).run E.P w) := by
  unfold oLoad at hx
  split at hx
  case h_2 => cases hx
  rename_i i o ha
  obtain ⟨a, hl, rfl⟩ := val1_spec hx
  obtain ⟨L, hL, hp⟩ := he x _ ha
  obtain ⟨v, hv, hr⟩ := loadA_spec ok h hl hL
  refine res_of_val0 h (v := v) ?_ hr
  simp only [hp, Instr.loadAt, Instr.sureAddr, Sem.run_bind, Sem.run_pure, Result.andThen_ok, hv]

include ok h he in
theorem oStore_ok {t : TypeId} {x y : Operand} (hx : oStore E tm s t x y = some r) : ResOK B ρ σ r w ((do Instr.storeAt t (ev x) (ev y); pure .skip : Sem Next).run E.P w) := by
  unfold oStore at hx
  split at hx
  case h_2 => cases hx
  rename_i i o ha
  split at hx
  · cases hx
  rename_i b hb
  split at hx
  case h_2 => cases hx
  rename_i s' hs
  cases hx
  obtain ⟨L, hL, hp⟩ := he x _ ha
  obtain ⟨w', hw, hbl, hR⟩ := storeA_spec ok h hs hL (he y _ hb)
  refine res_of_unit ?_ hbl (Ext.refl _) hR
  simp only [hp, Instr.storeAt, Instr.sureAddr, Sem.run_bind, Sem.run_pure, Result.andThen_ok, hw]

include h he in
theorem oUn_ok {P : Program} {op : UnOp} {x : Operand} (hw : ∀ k n, fastWrap k n = k.wrap n) (hx : oUn tm s op x = some r) : ResOK B ρ σ r w ((do pure (.value (← Op.unary op (ev x))) : Sem Next).run P w) := by
  unfold oUn at hx
  split at hx
  · rename_i b hb
    have hv := he x _ hb
    simp only [VR] at hv
    split at hx
    case h_2 => cases hx
    cases hx
    exact res_of_val0 h (v := .bool (!b)) (by simp [hv, Op.unary]) rfl
  · rename_i k n hb
    have hv := he x _ hb
    simp only [VR] at hv
    split at hx
    case h_2 => cases hx
    cases hx
    exact res_of_val0 h (v := .int k (k.wrap (0 - n))) (by simp [hv, Op.unary, Op.intArith]) (by rw [hw]; rfl)
  · cases hx

include ok h he in
theorem oIface_ok {t : TypeId} {x : Operand} (hx : oIface E tm s t x = some r) : ResOK B ρ σ r w ((do pure (.value (← Instr.makeInterface t (ev x))) : Sem Next).run E.P w) := by
  unfold oIface at hx
  split at hx
  · cases hx
  · cases hx
  · cases hx
  rename_i d hn _ hd
  split at hx
  case h_2 => cases hx
  rename_i a ha
  cases hx
  refine res_of_val0 h (v := .iface t (ev x)) ?_ ⟨_, rfl, he x a ha⟩
  have hu := ok.run_und hd w
  simp only [Instr.makeInterface, Sem.run_bind, hu, Result.andThen_ok]
  cases d <;> first | rfl | exact absurd rfl (hn _)

include h he in
theorem oFunc_ok {P : Program} {fn : Fn} {a b : Array Operand} (hx : oFunc tm s fn a b = some r) : ResOK B ρ σ r w ((do pure (.value (← Instr.makeFunc fn (a.map ev) (b.map ev))) : Sem Next).run P w) := by
  unfold oFunc at hx
  split at hx
  case h_2 => cases hx
  split at hx
  · cases hx
  rename_i xs hxs
  split at hx
  case h_2 => cases hx
  rename_i ys hys
  cases hx
  refine res_of_val0 h (v := _) rfl ⟨_, _, rfl, ?_, ?_⟩
  · simpa using aevals_rel he hxs
  · simpa using aevals_rel he hys

include ok h in
theorem oMap_ok {t : TypeId} {ro : Option Operand} (he : EvOK ρ σ tm ev) (hx : oMap E tm s t ro = some r) : ResOK B ρ σ r w ((do pure (.value (← Instr.makeMap t (ro.map ev))) : Sem Next).run E.P w) := by
  unfold oMap at hx
  split at hx
  case h_2 => cases hx
  rename_i kt et hd
  split at hx
  case h_2 => cases hx
  rename_i hres
  split at hx
  case h_2 => cases hx
  rename_i i s' hn
  cases hx
  obtain ⟨ρ', hρ, hR, hi⟩ := h.new (e := 0) hn (New.alloc w (.map #[] 0)) ⟨rfl, #[], rfl, rfl⟩
  refine res_of_val (v := .map (some w.heap.size)) ?_ ((New.alloc w _).below h.size) hρ hR ⟨_, hi, rfl⟩
  have hu := ok.run_und hd w
  cases ro with
  | none => simp [Instr.makeMap]
  | some x =>
    simp only at hres
    split at hres
    · rename_i k n ha
      have hv := he x _ ha
      simp only [VR] at hv
      simp [Instr.makeMap, hu, hv, asInt, asIntOf]
    · cases hres

include h he in
theorem oExtract_ok {P : Program} {x : Operand} {i : Nat} (hx : oExtract tm s x i = some r) : ResOK B ρ σ r w ((do pure (.value (← Instr.extract (ev x) i)) : Sem Next).run P w) := by
  unfold oExtract at hx
  split at hx
  case h_2 => cases hx
  rename_i vs ha
  obtain ⟨a, hl, rfl⟩ := val1_spec hx
  obtain ⟨us, hv, hr⟩ := he x _ ha
  rw [nth_eq] at hl
  obtain ⟨v, hv1, hv2⟩ := hr.nth hl
  refine res_of_val0 h (v := v) ?_ hv2
  have : us[i]? = some v := by simpa using hv1
  simp [hv, Instr.extract, this]

include he in
theorem oPanic_ok {P : Program} {x : Operand} (hx : oPanic tm x = some r) : ResOK B ρ σ r w ((do pure (.value (← Instr.panic (ev x))) : Sem Next).run P w) := by
  unfold oPanic at hx
  split at hx
  case h_2 => cases hx
  rename_i t v ha
  cases hx
  obtain ⟨u, hv, hr⟩ := he x _ ha
  simp only [hv, Instr.panic, Sem.run_bind, run_goPanic, Result.andThen_halt]
  exact ⟨rfl, _, rfl, u, rfl, hr⟩

include ok h he in
theorem oFieldAddr_ok {t : TypeId} {x : Operand} {f : Nat} (hx : oFieldAddr E tm s t x f = some r) : ResOK B ρ σ r w ((do pure (.value (← Instr.fieldAt t (ev x) f)) : Sem Next).run E.P w) := by
  unfold oFieldAddr at hx
  split at hx
  case h_2 => cases hx
  rename_i fs hd
  split at hx
  case h_2 => cases hx
  rename_i i o ha
  split at hx
  · cases hx
  rename_i fd hf
  split at hx
  case h_2 => cases hx
  rename_i z hz
  cases hx
  obtain ⟨L, hL, hp⟩ := he x _ ha
  refine res_of_val0 h (v := .pointer (some ⟨L.blk, L.sh + o + fd.offset, none⟩)) ?_ ⟨L, hL, by rw [Nat.add_assoc]⟩
  have hu := ok.run_und hd w
  have hs := ok.run_sz hz w
  rw [nth_eq] at hf
  have hf' : fs[f]? = some fd := by simpa using hf
  simp [Instr.fieldAt, hu, hf', hp, Instr.sureAddr, fieldPlace, hs, addr_add]

include h he in
theorem oNil_ok {x : Operand} (hx : oNil tm s x = some r) {o : Oper} (ho : o.op = .nilCheck x) : ResOK B ρ σ r w ((execOp ev o).run E.P w) := by
  unfold oNil at hx
  split at hx
  · rename_i i p ha
    cases hx
    obtain ⟨L, hL, hp⟩ := he x _ ha
    simp only [execOp, ho, hp]
    exact res_val h ⟨L, hL, rfl⟩
  · rename_i f a b ha
    cases hx
    have hv := he x _ ha
    obtain ⟨va, vb, hp, h1, h2⟩ := hv
    simp only [execOp, ho, hp]
    exact res_val h ⟨va, vb, rfl, h1, h2⟩
  · cases hx
end
end Go.Eng

/-! The engine's operations are the machine's: numbers, strings, '=='. No condition. -/
namespace Go.Eng
open Go.RowKit

theorem blt_iff (a b : Nat) : Nat.blt a b = decide (a < b) := by
  show Nat.ble (a + 1) b = _
  rw [Bool.eq_iff_iff, Nat.ble_eq]; simp; omega
theorem beq_iff (a b : Nat) : Nat.beq a b = decide (a = b) := by
  rw [Bool.eq_iff_iff]; simp

theorem wrap_i64_nat (m : Nat) (h : m < 9223372036854775808) : IntKind.i64.wrap (.ofNat m) = .ofNat m := by
  unfold IntKind.wrap
  simp only [IntKind.bits, IntKind.signed, Int.ofNat_eq_natCast]
  have e : ((m : Int) % 2 ^ 64) = m := by omega
  simp only [e]
  simp; omega
theorem wrap_i64_neg (m : Nat) (h : m < 9223372036854775808) : IntKind.i64.wrap (.negSucc m) = .negSucc m := by
  unfold IntKind.wrap
  simp only [IntKind.bits, IntKind.signed, Int.negSucc_eq]
  have e : ((-((m : Int) + 1)) % 2 ^ 64) = 2 ^ 64 - (m + 1) := by omega
  simp only [e]
  simp; omega
theorem fastWrap_eq (k : IntKind) (n : Int) : fastWrap k n = k.wrap n := by
  unfold fastWrap
  split
  · split
    · split
      · rename_i hb; rw [blt_iff] at hb; exact (wrap_i64_nat _ (by simpa using hb)).symm
      · rfl
    · split
      · rename_i hb; rw [blt_iff] at hb; exact (wrap_i64_neg _ (by simpa using hb)).symm
      · rfl
  · rfl

theorem eqInt_eq (a b : Int) : eqInt a b = (a == b) := by
  rw [Bool.eq_iff_iff, beq_iff_eq]
  cases a <;> cases b <;> simp [eqInt, beq_iff] <;> omega
theorem ltInt_eq (a b : Int) : ltInt a b = decide (a < b) := by
  cases a <;> cases b <;> simp [ltInt, blt_iff, Int.negSucc_eq] <;> omega
theorem isZeroInt_eq (a : Int) : isZeroInt a = decide (a = 0) := by
  cases a <;> simp [isZeroInt, beq_iff] <;> omega

theorem eqNats_cons (a b : Nat) (l m : List Nat) : eqNats (a :: l) (b :: m) = (Nat.beq a b && eqNats l m) := by
  show Bool.rec (motive := fun _ => Bool) false (eqNats l m) (Nat.beq a b) = _
  cases Nat.beq a b <;> rfl
theorem eqNats_eq : ∀ (l m : List Nat), eqNats l m = (l == m)
  | [], [] => rfl
  | [], b :: m => rfl
  | a :: l, [] => rfl
  | a :: l, b :: m => by rw [eqNats_cons, eqNats_eq l m, beq_iff, List.cons_beq_cons]; rfl

theorem bytesNat_inj {a b : ByteArray} (h : bytesNat a = bytesNat b) : a = b := by
  unfold bytesNat at h
  have h1 := (List.map_inj_right (f := UInt8.toNat) (fun x y hxy => UInt8.toNat_inj.1 hxy)).1 h
  cases a; cases b
  simp at h1
  simp [h1]
theorem toList_eq (a : ByteArray) : a.toList = a.data.toList := by
  exact ByteArray.toList_eq a

theorem bytesNat_beq (a b : ByteArray) : (bytesNat a == bytesNat b) = (a.toList == b.toList) := by
  rw [Bool.eq_iff_iff, beq_iff_eq, beq_iff_eq, toList_eq, toList_eq]
  exact ⟨fun e => by rw [bytesNat_inj e], fun e => by unfold bytesNat; rw [e]⟩

theorem ltNats_eq : ∀ (x y : List UInt8), ltNats (x.map UInt8.toNat) (y.map UInt8.toNat) = Op.bytesLess x y
  | _, [] => by simp [ltNats, Op.bytesLess]
  | [], b :: y => by simp [ltNats, Op.bytesLess]
  | a :: x, b :: y => by
    have ih := ltNats_eq x y
    show (match Nat.blt a.toNat b.toNat with | true => true | false => match Nat.beq a.toNat b.toNat with | true => ltNats (x.map UInt8.toNat) (y.map UInt8.toNat) | false => false) = (decide (a < b) || (a == b && Op.bytesLess x y))
    rw [blt_iff, beq_iff, ih]
    by_cases h1 : a.toNat < b.toNat
    · have : a < b := h1
      simp [h1, this]
    · have h1' : ¬ a < b := h1
      by_cases h2 : a = b
      · subst h2; simp
      · have : a.toNat ≠ b.toNat := fun e => h2 (UInt8.toNat_inj.1 e)
        have h3 : (a == b) = false := by simpa using h2
        simp [h1, h1', h3, this]

theorem bytesNat_len (s : ByteArray) : (bytesNat s).length = s.size := by
  unfold bytesNat
  rw [List.length_map, Array.length_toList]
  rfl
theorem bytesNat_append (a b : ByteArray) : bytesNat (a ++ b) = bytesNat a ++ bytesNat b := by
  simp only [bytesNat, ByteArray.data_append, Array.toList_append, List.map_append]

section
variable {E : Env} {B : Base} {ρ ρ' : Rho} {σ : Nat → Value} {s s' : St} {w w' : World} {tm : T AV} {ev : Operand → Value} {r : Res}

theorem intBinA_ok {P : Program} {op : BinOp} {k : IntKind} {x y : Int} {a : AV} (h : intBinA op k x y = some a) :
    ∃ v, (match op with
      | .add | .sub | .mul => Op.intArith op k x y
      | .quo | .rem => Op.intDiv op k x y
      | .and | .or | .xor | .andNot => Op.intBits op k x y
      | _ => Op.intCmp op x y).run P w = .ok v w ∧ VR ρ σ a v := by
  unfold intBinA at h
  split at h
  case h_4 | h_5 =>
    rw [isZeroInt_eq] at h
    split at h
    · cases h
    · rename_i hz
      cases h
      have hz : ¬ y = 0 := by simpa using hz
      exact ⟨_, by simp [Op.intDiv, hz]; rfl, by simp [fastWrap_eq, VR]⟩
  case h_1 | h_2 | h_3 => cases h; exact ⟨_, rfl, by simp [fastWrap_eq, VR]⟩
  case h_6 | h_7 | h_8 | h_9 => cases h; exact ⟨_, rfl, rfl⟩
  case h_10 | h_11 => cases h; exact ⟨_, rfl, by simp [eqInt_eq, VR, bne]⟩
  case h_12 => cases h; exact ⟨_, rfl, by simp [ltInt_eq, VR]⟩
  case h_13 => cases h; exact ⟨_, rfl, by simp only [ltInt_eq, VR]; congr 1; rw [Bool.eq_iff_iff]; simp⟩
  case h_14 => cases h; exact ⟨_, rfl, by simp [ltInt_eq, VR]⟩
  case h_15 => cases h; exact ⟨_, rfl, by simp only [ltInt_eq, VR]; congr 1; rw [Bool.eq_iff_iff]; simp⟩
  case h_16 => cases h

theorem shiftA_ok {P : Program} {op : BinOp} {k yk : IntKind} {x y : Int} {a : AV} (h : shiftA op k x y = some a) : ∃ v, (Op.shift op k x yk y).run P w = .ok v w ∧ VR ρ σ a v := by
  unfold shiftA at h
  split at h
  · cases h
  · rename_i m
    have hm : ¬ (Int.ofNat m < 0) := by simp
    split at h
    · cases h; exact ⟨_, by simp only [Op.shift]; rw [if_neg hm]; rfl, rfl⟩
    · cases h; exact ⟨_, by simp only [Op.shift]; rw [if_neg hm]; rfl, rfl⟩
    · cases h

theorem strBinA_ok {P : Program} {op : BinOp} {x y : ByteArray} {a : AV} (h : strBinA op (bytesNat x) (bytesNat y) = some a) : ∃ v, (Op.stringOp op x y).run P w = .ok v w ∧ VR ρ σ a v := by
  have hlt : ∀ u v : ByteArray, ltNats (bytesNat u) (bytesNat v) = Op.bytesLess u.toList v.toList := fun u v => by rw [toList_eq, toList_eq]; exact ltNats_eq _ _
  unfold strBinA at h
  split at h
  · split at h
    · rename_i hb
      cases h
      have hb := Nat.le_of_ble_eq_true hb
      rw [len_eq, len_eq, bytesNat_len, bytesNat_len] at hb
      unfold maxStr at hb
      refine ⟨.string (x ++ y), ?_, _, rfl, bytesNat_append x y⟩
      have : ¬ (((x.size + y.size : Nat) : Int) > IntKind.i64.max) := by simp [IntKind.max, IntKind.signed, IntKind.bits]; omega
      simp only [Op.stringOp, if_neg this, Sem.run_pure]
    · cases h
  all_goals first
    | (cases h; done)
    | (cases h; exact ⟨_, rfl, by simp only [VR, eqNats_eq, bytesNat_beq, hlt]⟩)
end
end Go.Eng

/-! The engine's operations are the machine's: '==', binary operations. No condition. -/
namespace Go.Eng
open Go.RowKit

section
variable {E : Env} {B : Base} {ρ ρ' : Rho} {σ : Nat → Value} {s s' : St} {w w' : World} {tm : T AV} {ev : Operand → Value} {r : Res}

theorem eqC_ok {P : Program} {n : Nat} {t : TypeId} {d : TypeDesc} (hd : P.underlying t = some d) {a b : AV} {x : Bool} (hf : fitT d a = true) (h : eqC a b = some x) {va vb : Value} (ha : VR ρ σ a va) (hb : VR ρ σ b vb) :
    (Op.equalIn (n + 1) t va vb).run P w = .ok x w := by
  unfold eqC at h
  split at h
  · cases h
    simp only [VR] at ha hb; subst ha; subst hb
    unfold fitT at hf
    split at hf <;> first | (cases hf; done) | skip
    · rename_i _ _ e; cases e
    · exact run_equalIn_bool w n t _ _ hd
    · rename_i _ _ e; cases e
  · split at h
    · rename_i hk
      cases h
      simp only [VR] at ha hb; subst ha; subst hb
      have hk := eqK_true hk
      subst hk
      unfold fitT at hf
      split at hf <;> first | (cases hf; done) | skip
      · rw [eqInt_eq]; exact run_equalIn_int w n t _ _ _ _ hd
      · rename_i _ _ e; cases e
      · rename_i _ _ e; cases e
    · cases h
  · cases h
    obtain ⟨sa, rfl, rfl⟩ := ha
    obtain ⟨sb, rfl, rfl⟩ := hb
    unfold fitT at hf
    split at hf <;> first | (cases hf; done) | skip
    · rename_i _ _ e; cases e
    · rename_i _ _ e; cases e
    · rw [eqNats_eq, bytesNat_beq]; exact run_equalIn_string w n t _ _ hd
  · cases h

theorem part_flat (ok : EnvOK E) {f : Field} {i : Nat} (hf : flatT E f.type = true) (ho : f.offset = i) {xs : Array Value} {v : Value} (hv : xs[i]? = some v) : (part f.type xs f.offset).run E.P w = .ok v w := by
  have : ∃ d, und E f.type = some d ∧ aggD d = false := by
    unfold flatT at hf
    split at hf
    · rename_i h; exact ⟨_, h, rfl⟩
    · rename_i h; exact ⟨_, h, rfl⟩
    · rename_i h; exact ⟨_, h, rfl⟩
    · cases hf
  obtain ⟨d, hd, ha⟩ := this
  have hu := ok.run_und hd w
  have hag : (isAgg f.type).run E.P w = .ok false w := by
    simp only [isAgg, Sem.run_bind, hu, Result.andThen_ok]
    cases d <;> first | rfl | (cases ha; done)
  simp [part, hag, ho, hv]

theorem eqFields_ok (ok : EnvOK E) {n : Nat} {xs ys : Array Value} : ∀ (fs : List Field) (i : Nat) (la lb : List AV) (x : Bool), flatFs E fs i = true → fitFs E fs la = true →
    VRs ρ σ la (xs.toList.drop i) → VRs ρ σ lb (ys.toList.drop i) → eqCs la lb = some x → (Op.eqFields (n + 1) xs ys fs).run E.P w = .ok x w
  | [], i, la, lb, x, _, hfit, _, _, he => by
    cases la with
    | nil => cases lb with
      | nil => simp [eqCs] at he; subst he; rfl
      | cons b lb => simp [eqCs] at he
    | cons a la => simp [fitFs] at hfit
  | f :: fs, i, [], lb, x, _, hfit, _, _, _ => by simp [fitFs] at hfit
  | f :: fs, i, a :: la, [], x, _, _, _, _, he => by simp [eqCs] at he
  | f :: fs, i, a :: la, b :: lb, x, hflat, hfit, ha, hb, he => by
    obtain ⟨va, ra, ea, hra, hla⟩ := ha
    obtain ⟨vb, rb, eb, hrb, hlb⟩ := hb
    have hxa : xs[i]? = some va := by
      have : (xs.toList.drop i)[0]? = some va := by rw [ea]; rfl
      rw [List.getElem?_drop] at this; simpa using this
    have hxb : ys[i]? = some vb := by
      have : (ys.toList.drop i)[0]? = some vb := by rw [eb]; rfl
      rw [List.getElem?_drop] at this; simpa using this
    have hla' : VRs ρ σ la (xs.toList.drop (i + 1)) := by
      have : xs.toList.drop (i + 1) = ra := by rw [← List.drop_drop (i := 1) (j := i), ea]; rfl
      rw [this]; exact hla
    have hlb' : VRs ρ σ lb (ys.toList.drop (i + 1)) := by
      have : ys.toList.drop (i + 1) = rb := by rw [← List.drop_drop (i := 1) (j := i), eb]; rfl
      rw [this]; exact hlb
    simp only [flatFs, Bool.and_eq_true, Bool.not_eq_true', beq_eq_false_iff_ne] at hflat
    obtain ⟨⟨⟨h1, h2⟩, h3⟩, h4⟩ := hflat
    have ho : f.offset = i := Nat.eq_of_beq_eq_true h2
    unfold fitFs at hfit
    split at hfit
    case h_2 => cases hfit
    rename_i d hd
    split at hfit
    case h_2 => cases hfit
    rename_i hft
    have p1 := part_flat (w := w) ok h1 ho hxa
    have p2 := part_flat (w := w) ok h1 ho hxb
    have hne : f.name ≠ "_" := h3
    unfold eqCs at he
    split at he
    · rename_i hc
      have q := eqC_ok (w := w) (n := n) (ok.und hd) hft hc hra hrb
      have ih := eqFields_ok ok (n := n) fs (i + 1) la lb x h4 hfit hla' hlb' he
      simp only [Op.eqFields, if_pos hne, Sem.run_bind, p1, p2, q, Result.andThen_ok, Bool.not_true, Bool.false_eq_true, if_false, ih]
    · rename_i hc
      cases he
      have q := eqC_ok (w := w) (n := n) (ok.und hd) hft hc hra hrb
      simp only [Op.eqFields, if_pos hne, Sem.run_bind, p1, p2, q, Result.andThen_ok, Bool.not_false, if_true, Sem.run_pure]
    · cases he

theorem eqA_ok (ok : EnvOK E) {t : TypeId} {x y : AV} {b : Bool} (h : eqA E t x y = some b) {vx vy : Value} (hx : VR ρ σ x vx) (hy : VR ρ σ y vy) (n : Nat) : (Op.equalIn (n + 2) t vx vy).run E.P w = .ok b w := by
  unfold eqA at h
  split at h
  case h_1 =>
    rename_i u v hd
    cases h
    simp only [VR] at hx hy; subst hx; subst hy
    exact run_equalIn_bool w _ t _ _ (ok.und hd)
  case h_5 =>
    rename_i e i o j p hd
    split at h
    case h_2 => cases h
    rename_i z hz
    split at h
    case h_2 => cases h
    rename_i hij
    cases h
    have hij : i = j := Nat.eq_of_beq_eq_true hij
    subst hij
    obtain ⟨L, hL, rfl⟩ := hx
    obtain ⟨L', hL', rfl⟩ := hy
    rw [hL] at hL'; cases hL'
    have hu := ok.run_und hd w
    have hs := ok.run_sz hz w
    unfold Op.equalIn
    simp only [Sem.run_bind, hu, Result.andThen_ok, hs]
    simp [sameAddr, beq_iff]
    by_cases e : o = p
    · subst e; simp
    · have : ((⟨L.blk, L.sh + o, none⟩ : Addr) == ⟨L.blk, L.sh + p, none⟩) = false := by
        rw [beq_eq_false_iff_ne]; intro h'; injection h' with _ h2; omega
      simp [e, this]
  case h_8 =>
    rename_i ms tx a ty c hd
    obtain ⟨u, rfl, ha⟩ := hx
    obtain ⟨v, rfl, hc⟩ := hy
    have hu := ok.run_und hd w
    split at h
    · rename_i hne
      cases h
      have hne : tx ≠ ty := fun e => by subst e; simp at hne
      unfold Op.equalIn
      simp [hu, hne]
    · rename_i he
      have he : tx = ty := Nat.eq_of_beq_eq_true he
      subst he
      split at h
      case h_2 => cases h
      rename_i ti hti
      split at h
      case h_2 => cases h
      rename_i hcf
      simp only [Bool.and_eq_true] at hcf
      obtain ⟨i, hi, _, _, _, hcmp, hund, _⟩ := ok.ty tx ti hti
      have q := eqC_ok (w := w) (n := n) hund hcf.2 h ha hc
      have hci : i.comparable = true := hcmp.trans hcf.1
      unfold Op.equalIn
      simp [hu, typeInfo, hi, hci]
      exact q
  case h_18 =>
    rename_i fs a c hd
    split at h
    case h_2 => cases h
    rename_i hcf
    simp only [Bool.and_eq_true, Bool.not_eq_true'] at hcf
    obtain ⟨⟨⟨h1, h2⟩, h3⟩, h4⟩ := hcf
    obtain ⟨xs, rfl, ha⟩ := hx
    obtain ⟨ys, rfl, hc⟩ := hy
    have hf : E.P.fieldsOf t = fs := by simp [Program.fieldsOf, ok.und hd]
    rw [run_equalIn_struct w _ t xs ys (by rw [hf]; exact ok.und hd) h4, hf]
    exact eqFields_ok ok fs.toList 0 a c b h1 h2 (by simpa using ha) (by simpa using hc) h
  all_goals first
    | (cases h; done)
    | (rename_i hd
       cases h
       have hu := ok.run_und hd w
       (first | (simp only [VR] at hx; subst hx) | (obtain ⟨_, _, rfl⟩ := hx) | (obtain ⟨_, _, _, _, rfl, _⟩ := hx) | (obtain ⟨_, rfl, _⟩ := hx) | (obtain ⟨_, _, rfl, _⟩ := hx))
       (first | (simp only [VR] at hy; subst hy) | (obtain ⟨_, _, rfl⟩ := hy) | (obtain ⟨_, _, _, _, rfl, _⟩ := hy) | (obtain ⟨_, rfl, _⟩ := hy) | (obtain ⟨_, _, rfl, _⟩ := hy))
       unfold Op.equalIn
       simp [hu])

theorem guard_ok {op : BinOp} {t : TypeId} {x y : Operand} {a b : AV} {c : Bool} (h : eqA E t a b = some c) {va vb : Value} (ha : VR ρ σ a va) (hb : VR ρ σ b vb) :
    (eqGuard op t x y va vb).run E.P w = .ok () w := by
  have key : ∀ (va vb : Value), (va = .nilIface → vb ≠ .nilIface) → (∀ xs, va ≠ .agg xs) → (eqGuard op t x y va vb).run E.P w = .ok () w := by
    intro va vb h1 h2
    unfold eqGuard
    cases op <;> first
      | rfl
      | (cases va <;> first
          | rfl
          | (exact absurd rfl (h2 _))
          | (cases vb <;> first | rfl | (exact absurd rfl (h1 rfl))))
  unfold eqA at h
  split at h
  case h_18 =>
    rename_i fs a c hd
    split at h
    case h_2 => cases h
    rename_i hcf
    simp only [Bool.and_eq_true, Bool.not_eq_true'] at hcf
    obtain ⟨xs, rfl, _⟩ := ha
    obtain ⟨ys, rfl, _⟩ := hb
    exact run_eqGuard_agg w op t x y xs ys hcf.1.2
  case h_19 => cases h
  all_goals
    refine key va vb ?_ ?_
    · (first | (simp only [VR] at ha; subst ha) | (obtain ⟨_, _, rfl⟩ := ha) | (obtain ⟨_, _, _, _, rfl, _⟩ := ha) | (obtain ⟨_, rfl, _⟩ := ha) | (obtain ⟨_, _, rfl, _⟩ := ha))
      (first | (simp only [VR] at hb; subst hb) | (obtain ⟨_, _, rfl⟩ := hb) | (obtain ⟨_, _, _, _, rfl, _⟩ := hb) | (obtain ⟨_, rfl, _⟩ := hb) | (obtain ⟨_, _, rfl, _⟩ := hb))
      simp
    · (first | (simp only [VR] at ha; subst ha) | (obtain ⟨_, _, rfl⟩ := ha) | (obtain ⟨_, _, _, _, rfl, _⟩ := ha) | (obtain ⟨_, rfl, _⟩ := ha) | (obtain ⟨_, _, rfl, _⟩ := ha))
      simp

theorem plain_guard {P : Program} {op : BinOp} {t : TypeId} {x y : Operand} {va vb : Value} (h1 : va ≠ .nilIface) (h2 : ∀ xs, va ≠ .agg xs) : (eqGuard op t x y va vb).run P w = .ok () w := by
  unfold eqGuard
  cases op <;> first
    | rfl
    | (cases va <;> first
        | rfl
        | (exact absurd rfl (h2 _))
        | (exact absurd rfl h1))

/-- Not a number, nor a string. -/
def NoNum (v : Value) : Prop := match v with | .int _ _ | .float _ _ | .complex _ _ _ | .string _ => False | _ => True
theorem eqA_form {t : TypeId} {a b : AV} {c : Bool} (h : eqA E t a b = some c) {va : Value} (ha : VR ρ σ a va) : NoNum va := by
  unfold eqA at h
  split at h
  case h_18 => obtain ⟨xs, rfl, _⟩ := ha; trivial
  case h_19 => cases h
  all_goals
    (first | (simp only [VR] at ha; subst ha) | (obtain ⟨_, _, rfl⟩ := ha) | (obtain ⟨_, _, _, _, rfl, _⟩ := ha) | (obtain ⟨_, rfl, _⟩ := ha) | (obtain ⟨_, _, rfl, _⟩ := ha))
    trivial
theorem binOp_eql {t : TypeId} {va vb : Value} (h : NoNum va) : binOp .eql t va vb = (do pure (.bool (← Op.equal t va vb)) : Sem Value) := by
  cases va <;> first
    | exact h.elim
    | (cases vb <;> rfl)
theorem binOp_neq {t : TypeId} {va vb : Value} (h : NoNum va) : binOp .neq t va vb = (do pure (.bool (!(← Op.equal t va vb))) : Sem Value) := by
  cases va <;> first
    | exact h.elim
    | (cases vb <;> rfl)

theorem binA_ok (ok : EnvOK E) {op : BinOp} {t : TypeId} {x y : Operand} {a b v : AV} (h : binA E op t a b = some v) {va vb : Value} (ha : VR ρ σ a va) (hb : VR ρ σ b vb) :
    ∃ u, ((do eqGuard op t x y va vb; binOp op t va vb : Sem Value).run E.P w) = .ok u w ∧ VR ρ σ v u := by
  unfold binA at h
  split at h
  · rename_i k p k' q
    simp only [VR] at ha hb; subst ha; subst hb
    have hg := plain_guard (P := E.P) (w := w) (op := op) (t := t) (x := x) (y := y) (va := .int k p) (vb := .int k' q) (by simp) (by simp)
    simp only [Sem.run_bind, hg, Result.andThen_ok]
    split at h
    · obtain ⟨u, hu, hr⟩ := shiftA_ok (P := E.P) (w := w) (yk := k') h
      exact ⟨u, by simp only [binOp]; exact hu, hr⟩
    · obtain ⟨u, hu, hr⟩ := shiftA_ok (P := E.P) (w := w) (yk := k') h
      exact ⟨u, by simp only [binOp]; exact hu, hr⟩
    · rename_i h1 h2
      split at h
      case h_2 => cases h
      rename_i hk
      have hk := eqK_true hk
      subst hk
      obtain ⟨u, hu, hr⟩ := intBinA_ok (P := E.P) (w := w) (ρ := ρ) (σ := σ) h
      refine ⟨u, ?_, hr⟩
      cases op <;> first | (exact absurd rfl h1) | (exact absurd rfl h2) | (simp only [binOp]; simpa using hu)
  · obtain ⟨sa, rfl, rfl⟩ := ha
    obtain ⟨sb, rfl, rfl⟩ := hb
    have hg := plain_guard (P := E.P) (w := w) (op := op) (t := t) (x := x) (y := y) (va := .string sa) (vb := .string sb) (by simp) (by simp)
    simp only [Sem.run_bind, hg, Result.andThen_ok]
    obtain ⟨u, hu, hr⟩ := strBinA_ok (P := E.P) (w := w) (ρ := ρ) (σ := σ) h
    refine ⟨u, ?_, hr⟩
    cases op <;> (simp only [binOp]; exact hu)
  · rename_i h1 h2
    split at h
    · split at h
      case h_2 => cases h
      rename_i c hc
      cases h
      have hg := guard_ok (E := E) (w := w) (op := .eql) (t := t) (x := x) (y := y) hc ha hb
      have hq : (Op.equal t va vb).run E.P w = .ok c w := eqA_ok (w := w) ok hc ha hb 9998
      refine ⟨.bool c, ?_, rfl⟩
      simp only [Sem.run_bind, hg, Result.andThen_ok, binOp_eql (eqA_form hc ha), hq, Sem.run_pure]
    · split at h
      case h_2 => cases h
      rename_i c hc
      cases h
      have hg := guard_ok (E := E) (w := w) (op := .neq) (t := t) (x := x) (y := y) hc ha hb
      have hq : (Op.equal t va vb).run E.P w = .ok c w := eqA_ok (w := w) ok hc ha hb 9998
      refine ⟨.bool (!c), ?_, rfl⟩
      simp only [Sem.run_bind, hg, Result.andThen_ok, binOp_neq (eqA_form hc ha), hq, Sem.run_pure]
    · cases h

theorem isConstO_spec {x : Operand} (h : isConstO x = true) : ∃ v, x = .const v := by
  unfold isConstO at h
  split at h
  · exact ⟨_, rfl⟩
  · cases h

theorem bothNil_spec {a b : AV} (h : bothNil a b = true) : a = .nilIface ∧ b = .nilIface := by
  unfold bothNil at h
  split at h
  · split at h
    · exact ⟨rfl, rfl⟩
    · cases h
  · cases h

theorem oBin_ok (ok : EnvOK E) (h : R B ρ σ s w) (he : EvOK ρ σ tm ev) {op : BinOp} {t : TypeId} {x y : Operand} (hx : oBin E tm s op t x y = some r) :
    ResOK B ρ σ r w ((do pure (.value (← (do eqGuard op t x y (ev x) (ev y); binOp op t (ev x) (ev y)))) : Sem Next).run E.P w) := by
  unfold oBin at hx
  obtain ⟨a, ha, hx⟩ := ob_spec hx
  obtain ⟨b, hb, hx⟩ := ob_spec hx
  have hva := he x a ha
  have hvb := he y b hb
  cases hn : bothNil a b with
  | false =>
    rw [hn] at hx
    obtain ⟨v, hv, rfl⟩ := val1_spec hx
    obtain ⟨u, hu, hr⟩ := binA_ok (w := w) (x := x) (y := y) ok hv hva hvb
    exact res_of_val0 h hu hr
  | true =>
    rw [hn] at hx
    obtain ⟨rfl, rfl⟩ := bothNil_spec hn
    simp only [VR] at hva hvb
    replace hx : nilEq E s op t x y = some r := hx
    unfold nilEq at hx
    split at hx
    · cases hx
    rename_i hc
    split at hx
    case h_2 => cases hx
    rename_i ms hd
    have hu := ok.run_und hd w
    have hq : (Op.equal t .nilIface .nilIface).run E.P w = .ok true w := by
      show (Op.equalIn (9999 + 1) t .nilIface .nilIface).run E.P w = .ok true w
      generalize 9999 = n
      unfold Op.equalIn
      simp [hu]
    have hg : ∀ op, (eqGuard op t x y .nilIface .nilIface).run E.P w = .ok () w := by
      intro op
      have hcc : ((x matches .const _) || (y matches .const _)) = true := by
        rcases Bool.or_eq_true .. ▸ hc with h1 | h1
        · obtain ⟨v, rfl⟩ := isConstO_spec h1; rfl
        · obtain ⟨v, rfl⟩ := isConstO_spec h1; cases x <;> rfl
      rcases Bool.or_eq_true .. ▸ hc with h1 | h1
      · obtain ⟨v, rfl⟩ := isConstO_spec h1
        unfold eqGuard
        cases op <;> rfl
      · obtain ⟨v, rfl⟩ := isConstO_spec h1
        unfold eqGuard
        cases op <;> cases x <;> rfl
    split at hx
    · cases hx
      refine res_of_val0 h (v := .bool true) ?_ rfl
      rw [hva, hvb]
      simp only [Sem.run_bind, hg, Result.andThen_ok, binOp_eql (t := t) (va := .nilIface) (vb := .nilIface) trivial, hq, Sem.run_pure]
    · cases hx
      refine res_of_val0 h (v := .bool false) ?_ rfl
      rw [hva, hvb]
      simp only [Sem.run_bind, hg, Result.andThen_ok, binOp_neq (t := t) (va := .nilIface) (vb := .nilIface) trivial, hq, Sem.run_pure, Bool.not_true]
    · cases hx
end
end Go.Eng

/-! The engine's operations are the machine's: structs, slices, indexes. No condition. -/
namespace Go.Eng
open Go.RowKit

section
variable {E : Env} {B : Base} {ρ ρ' : Rho} {σ : Nat → Value} {s s' : St} {w w' : World} {tm : T AV} {ev : Operand → Value} {r : Res}

theorem foldl_set : ∀ (vs : List Value) (k off : Nat) (cs : Array Value), off + k + vs.length ≤ cs.size →
    ((vs.zipIdx k).foldl (fun (cs : Array Value) (p : Value × Nat) => cs.setIfInBounds (off + p.2) p.1) cs).toList = cs.toList.take (off + k) ++ vs ++ cs.toList.drop (off + k + vs.length)
  | [], k, off, cs, _ => by simp
  | v :: vs, k, off, cs, h => by
    have hp : off + k < cs.toList.length := by simp at h ⊢; omega
    have l1 : (cs.toList.take (off + k)).length = off + k := by simp at hp ⊢; omega
    rw [List.zipIdx_cons, List.foldl_cons, foldl_set vs (k + 1) off _ (by simp at h ⊢; omega), Array.toList_setIfInBounds, List.set_eq_take_append_cons_drop, if_pos hp]
    have e1 : off + (k + 1) = (cs.toList.take (off + k)).length + 1 := by omega
    have e2 : off + (k + 1) + vs.length = (cs.toList.take (off + k)).length + (1 + vs.length) := by omega
    rw [e2, e1, List.take_length_add_append, List.drop_length_add_append]
    have e3 : off + k + (v :: vs).length = off + k + 1 + vs.length := by simp; omega
    rw [e3, show (1 + vs.length) = vs.length + 1 by omega, List.drop_succ_cons, List.drop_drop]
    simp

/-- Parts. -/
def PR (ρ : Rho) (σ : Nat → Value) : List (Nat × AV) → List (Nat × Value) → Prop
  | [], l => l = []
  | (i, a) :: ps, l => ∃ v r, l = (i, v) :: r ∧ VR ρ σ a v ∧ PR ρ σ ps r

theorem aparts_rel (he : EvOK ρ σ tm ev) : ∀ {xs : List (Nat × Operand)} {l : List (Nat × AV)}, aparts tm xs = some l → PR ρ σ l (xs.map fun (i, x) => (i, ev x))
  | [], l, h => by simp [aparts] at h; subst h; rfl
  | (i, x) :: xs, l, h => by
    unfold aparts at h
    split at h
    · rename_i v hv
      split at h
      · rename_i vs hvs
        cases h
        exact ⟨_, _, rfl, he x v hv, aparts_rel he hvs⟩
      · cases h
    · cases h

theorem fillA_ok {place : Nat → Option (Nat × Nat)} {pl : Nat → Option (Nat × Nat)} (hpl : ∀ i x, place i = some x → pl i = some x) : ∀ {ps : List (Nat × AV)} {us : List (Nat × Value)} {ca r : List AV} {c : Array Value},
    fillA place ca ps = some r → PR ρ σ ps us → VRs ρ σ ca c.toList → ∃ c', Instr.fill pl c us = some c' ∧ VRs ρ σ r c'.toList ∧ c'.size = c.size
  | [], us, ca, r, c, h, hp, hc => by
    cases hp
    simp [fillA] at h; subst h
    exact ⟨c, rfl, hc, rfl⟩
  | (i, a) :: ps, us, ca, r, c, h, hp, hc => by
    obtain ⟨v, rest, rfl, hv, hrest⟩ := hp
    unfold fillA at h
    split at h
    · cases h
    rename_i off size hpi
    split at h
    case h_2 => cases h
    rename_i hsz
    split at h
    case h_2 => cases h
    rename_i cs' hov
    have hcells := hv.cells'
    have hl := hcells.length
    have hsz : a.cells.length = size := by rw [← len_eq]; exact Nat.eq_of_beq_eq_true hsz
    obtain ⟨h1, h2⟩ := over_eq _ _ _ _ hov
    have hcl := hc.length
    have hvs : v.cells.size = size := by rw [← hsz]; simpa using hl
    have hfit : ¬ off + v.cells.size > c.size := by
      rw [hvs]; simp at hcl; omega
    have hfold := foldl_set v.cells.toList 0 off c (by simp; omega)
    have hfold' : (v.cells.zipIdx.foldl (fun cs (x : Value × Nat) => cs.setIfInBounds (off + x.2) x.1) c).toList = c.toList.take off ++ v.cells.toList ++ c.toList.drop (off + v.cells.toList.length) := by
      rw [← Array.foldl_toList, Array.toList_zipIdx]
      simpa using hfold
    have hrel : VRs ρ σ cs' (v.cells.zipIdx.foldl (fun cs (x : Value × Nat) => cs.setIfInBounds (off + x.2) x.1) c).toList := by
      rw [hfold', h1, ← hl]
      exact ((hc.take off).append hcells).append (hc.drop _)
    obtain ⟨c', hf, hr, hs⟩ := fillA_ok hpl h hrest hrel
    refine ⟨c', ?_, hr, ?_⟩
    · unfold Instr.fill
      rw [hpl _ _ hpi]
      simp only [hvs, ne_eq, not_true_eq_false, decide_false, Bool.false_or, decide_eq_true_eq]
      rw [hvs] at hfit
      rw [if_neg hfit]
      exact hf
    · rw [hs]
      have : (v.cells.zipIdx.foldl (fun cs (x : Value × Nat) => cs.setIfInBounds (off + x.2) x.1) c).toList.length = c.toList.length := by
        rw [hfold']
        simp
        have := hcl
        simp at this
        omega
      simpa using this

theorem rep_rel {z : List AV} {zc : Array Value} (hz : VRs ρ σ z zc.toList) (hpos : 0 < zc.size) : ∀ (n : Nat), VRs ρ σ (rep n z) ((Array.range (n * zc.size)).map (zc[· % zc.size]!)).toList := by
  intro n
  have key : ∀ n, ((Array.range (n * zc.size)).map (zc[· % zc.size]!)).toList = (List.replicate n zc.toList).flatten := by
    intro n
    induction n with
    | zero => simp
    | succ n ih =>
      rw [List.replicate_succ', List.flatten_append, ← ih]
      apply List.ext_getElem?
      intro k
      simp only [Array.toList_map, Array.toList_range, List.getElem?_map, List.flatten_cons, List.flatten_nil, List.append_nil, List.getElem?_append, List.length_map, List.length_range]
      have hm : (n + 1) * zc.size = n * zc.size + zc.size := Nat.succ_mul ..
      by_cases h1 : k < n * zc.size
      · rw [if_pos h1, List.getElem?_range (by omega), List.getElem?_range h1]
      · rw [if_neg h1]
        by_cases h2 : k < (n + 1) * zc.size
        · rw [List.getElem?_range h2]
          have h3 : k - n * zc.size < zc.size := by omega
          have h4 : k % zc.size = k - n * zc.size := by
            have : k = (k - n * zc.size) + zc.size * n := by rw [Nat.mul_comm zc.size n]; omega
            rw [this, Nat.add_mul_mod_self_left, Nat.mod_eq_of_lt (by omega)]
            omega
          simp only [Option.map_some, h4]
          rw [Array.getElem?_toList, Array.getElem?_eq_getElem h3, getElem!_pos zc _ h3]
        · rw [List.getElem?_eq_none (by simp; omega), List.getElem?_eq_none (by simp; omega)]
          rfl
  rw [key]
  induction n with
  | zero => rfl
  | succ n ih =>
    rw [List.replicate_succ, List.flatten_cons]
    exact hz.append ih

theorem fieldPls_ok (ok : EnvOK E) : ∀ (fs : List Field) {l : List (Nat × Nat)}, fieldPls E fs = some l → (fs.mapM (m := Sem) fun f => do pure (f.offset, ← sizeOf f.type)).run E.P w = .ok l w
  | [], l, h => by simp [fieldPls] at h; subst h; rfl
  | f :: fs, l, h => by
    unfold fieldPls at h
    split at h
    · cases h
    rename_i n hn
    split at h
    case h_2 => cases h
    rename_i l' hl
    cases h
    have ih := fieldPls_ok ok fs hl
    have hs := ok.run_sz hn w
    simp only [List.mapM_cons, Sem.run_bind, hs, Result.andThen_ok, Sem.run_pure, ih]

variable (ok : EnvOK E) (h : R B ρ σ s w) (he : EvOK ρ σ tm ev)

include ok h he in
theorem oBuild_ok {t : TypeId} {parts : Array (Nat × Operand)} (hx : oBuild E tm s t parts = some r) :
    ResOK B ρ σ r w ((do pure (.value (← Instr.build t (parts.map fun (i, x) => (i, ev x)))) : Sem Next).run E.P w) := by
  unfold oBuild at hx
  split at hx
  · cases hx
  rename_i z hz
  split at hx
  · cases hx
  rename_i ps hps
  obtain ⟨zv, hzv, hzr⟩ := ok.run_zero hz w
  have hp : PR ρ σ ps (parts.map fun (i, x) => (i, ev x)).toList := by
    rw [Array.toList_map]; exact aparts_rel he hps
  split at hx
  · rename_i fs hd
    split at hx
    · cases hx
    rename_i pls hpls
    split at hx
    case h_2 => cases hx
    rename_i cs hf
    cases hx
    have hu := ok.run_und hd w
    have hpl1 : (fs.mapM (m := Sem) fun f => do pure (f.offset, ← sizeOf f.type)).run E.P w = .ok pls.toArray w := by
      rw [Array.mapM_eq_mapM_toList, Sem.run_map, fieldPls_ok ok fs.toList hpls]
      rfl
    have hpl2 : ∀ i x, nth pls i = some x → (pls.toArray)[i]? = some x := fun i x hx => by rw [nth_eq] at hx; simpa using hx
    obtain ⟨c', hc1, hc2, _⟩ := fillA_ok hpl2 hf hp (hzr ρ σ).cells'
    refine res_of_val0 h (v := .agg c') ?_ ⟨_, rfl, hc2⟩
    simp only [Instr.build, Sem.run_bind, hzv, Result.andThen_ok, hu, hpl1, hc1, Sem.run_pure]
  · rename_i n e hd
    split at hx
    case h_2 => cases hx
    rename_i sz hsz
    split at hx
    case h_2 => cases hx
    rename_i cs hf
    cases hx
    have hu := ok.run_und hd w
    have hs := ok.run_sz hsz w
    obtain ⟨c', hc1, hc2, _⟩ := fillA_ok (pl := fun i => some (i * sz, sz)) (fun i x hx => hx) hf hp (hzr ρ σ).cells'
    refine res_of_val0 h (v := .agg c') ?_ ⟨_, rfl, hc2⟩
    simp only [Instr.build, Sem.run_bind, hzv, Result.andThen_ok, hu, hs, hc1, Sem.run_pure]
  · cases hx
end
end Go.Eng

/-! The engine's operations are the machine's: slices, indexes. No condition. -/
namespace Go.Eng
open Go.RowKit

section
variable {E : Env} {B : Base} {ρ ρ' : Rho} {σ : Nat → Value} {s s' : St} {w w' : World} {tm : T AV} {ev : Operand → Value} {r : Res}
variable (ok : EnvOK E) (h : R B ρ σ s w) (he : EvOK ρ σ tm ev)

include ok h he in
theorem oBuildSlice_ok {t : TypeId} {n : Nat} {parts : Array (Nat × Operand)} (hx : oBuildSlice E tm s t n parts = some r) :
    ResOK B ρ σ r w ((do pure (.value (← Instr.buildSlice t n (parts.map fun (i, x) => (i, ev x)))) : Sem Next).run E.P w) := by
  unfold oBuildSlice at hx
  split at hx
  case h_2 => cases hx
  rename_i e hd
  split at hx
  case h_2 => cases hx
  rename_i z hsz
  split at hx
  · cases hx
  rename_i zv hz
  split at hx
  · cases hx
  rename_i ps hps
  split at hx
  · cases hx
  rename_i hc
  split at hx
  · cases hx
  rename_i cs hf
  split at hx
  · cases hx
  split at hx
  case h_2 => cases hx
  rename_i i s' hn
  cases hx
  simp only [Bool.and_eq_true] at hc
  have hc1 := Nat.le_of_ble_eq_true hc.1
  have hc2 : zv.cells.length = z + 1 := by rw [← len_eq]; exact Nat.eq_of_beq_eq_true hc.2
  obtain ⟨zr, hzv, hzr⟩ := ok.run_zero hz w
  have hzc := (hzr ρ σ).cells'
  have hzs : zr.cells.size = z + 1 := by have := hzc.length; rw [hc2] at this; simpa using this
  have hp : PR ρ σ ps (parts.map fun (i, x) => (i, ev x)).toList := by
    rw [Array.toList_map]; exact aparts_rel he hps
  have hu := ok.run_und hd w
  have hs : (sizeOf e).run E.P w = .ok (z + 1) w := ok.run_sz hsz w
  have hrep := rep_rel hzc (by omega) n
  rw [hzs] at hrep
  obtain ⟨c', hc3, hc4, hc5⟩ := fillA_ok (pl := fun i => some (i * (z + 1), z + 1)) (fun i x hx => hx) hf hp hrep
  obtain ⟨ρ', hρ, hR, hi⟩ := newCells_ok h hn (c := c') (ex := []) ⟨c'.toList, by simp, hc4⟩ (New.alloc w _)
  have hcsz : c'.size = n * (z + 1) := by rw [hc5]; simp
  refine res_of_val (v := .slice (some ⟨w.heap.size, 0, none⟩) n n) ?_ ((New.alloc w _).below h.size) hρ hR ⟨_, _, n, hi, rfl, Nat.le_refl _, Nat.le_refl _, ?_⟩
  · have hlim : ¬ n * (z + 1) > 2 ^ 24 := by omega
    simp only [Instr.buildSlice, Sem.run_bind, hu, Result.andThen_ok, hs, if_neg hlim]
    by_cases hzero : n * (z + 1) = 0
    · have hn0 : n = 0 := by
        rcases Nat.mul_eq_zero.1 hzero with h' | h'
        · exact h'
        · omega
      subst hn0
      have e0 : ∀ f : Nat → Value, (Array.range (0 * (z + 1))).map f = #[] := fun f => by apply Array.eq_empty_of_size_eq_zero; simp
      rw [e0] at hc3
      simp only [if_pos hzero, e0, hc3]
      simp only [Sem.run_bind, Sem.run_pure, Result.andThen_ok, run_newRow]
    · simp only [if_neg hzero, Sem.run_bind, hzv, Result.andThen_ok, Sem.run_pure, hzs, hc3, run_newRow]
  · by_cases h0 : n = 0
    · exact .inl h0
    · refine .inr ⟨by simp, ?_⟩
      simp [hcsz]

include ok h he in
theorem oMkSlice_ok {t : TypeId} {l c : Operand} (hx : oMkSlice E tm s t l c = some r) : ResOK B ρ σ r w ((do pure (.value (← Instr.makeSlice t (ev l) (ev c))) : Sem Next).run E.P w) := by
  unfold oMkSlice at hx
  split at hx
  · cases hx
  rename_i a ha
  split at hx
  case h_2 => cases hx
  rename_i b hb
  unfold makeSliceA at hx
  split at hx
  case h_2 => cases hx
  rename_i e k n k' m hd
  split at hx
  case h_2 => cases hx
  rename_i ti z hti hz
  split at hx
  case h_2 => cases hx
  rename_i hc
  split at hx
  case h_2 => cases hx
  rename_i i s' hn
  cases hx
  simp only [Bool.and_eq_true] at hc
  obtain ⟨⟨⟨⟨hc1, hc2⟩, hc3⟩, hc4⟩, hc5⟩ := hc
  have hc1 := Nat.le_of_ble_eq_true hc1
  have hc2 := Nat.le_of_ble_eq_true hc2
  have hc3 := Nat.le_of_ble_eq_true hc3
  have hc4 : z.cells.length = ti.size := by rw [← len_eq]; exact Nat.eq_of_beq_eq_true hc4
  rw [blt_iff] at hc5
  have hc5 : 0 < ti.size := by simpa using hc5
  unfold maxStr at hc3
  have hva := he l _ ha
  have hvb := he c _ hb
  simp only [VR] at hva hvb
  obtain ⟨zr, hzv, hzr⟩ := ok.run_zero hz w
  have hzc := (hzr ρ σ).cells'
  have hzs : zr.cells.size = ti.size := by have := hzc.length; rw [hc4] at this; simpa using this
  have hu := ok.run_und hd w
  obtain ⟨inf, hinf, hsz, hby, _⟩ := ok.ty e ti hti
  have hrep := rep_rel hzc (by omega) m
  rw [hzs] at hrep
  obtain ⟨ρ', hρ, hR, hi⟩ := newCells_ok h hn (c := (Array.range (m * ti.size)).map (zr.cells[· % ti.size]!)) (ex := []) ⟨_, by simp only [List.append_nil], hrep⟩ (New.alloc w _)
  refine res_of_val (v := .slice (some ⟨w.heap.size, 0, none⟩) n m) ?_ ((New.alloc w _).below h.size) hρ hR ⟨_, _, m, hi, rfl, hc1, Nat.le_refl _, .inr ⟨by simp, by simp⟩⟩
  have w1 : IntKind.i64.wrap (Int.ofNat n) = Int.ofNat n := wrap_i64_nat n (by omega)
  have w2 : IntKind.i64.wrap (Int.ofNat m) = Int.ofNat m := wrap_i64_nat m (by omega)
  have hb1 : (inf.bytes : Int) * Int.ofNat m ≤ 2 ^ 48 := by
    rw [hby]
    have : ((ti.bytes * m : Nat) : Int) ≤ (281474976710656 : Nat) := Int.ofNat_le.2 hc2
    simpa using this
  have hbad : ((decide (Int.ofNat m < 0) || decide ((inf.bytes : Int) * Int.ofNat m > 2 ^ 48)) || decide (Int.ofNat n < 0) || decide (Int.ofNat n > Int.ofNat m)) = false := by
    simp only [Bool.or_eq_false_iff, decide_eq_false_iff_not]
    refine ⟨⟨⟨?_, ?_⟩, ?_⟩, ?_⟩
    · simp
    · omega
    · simp
    · simp; omega
  simp only [Instr.makeSlice, hva, hvb, asInt, asIntOf, Sem.run_bind, hu, Result.andThen_ok, Sem.run_pure, typeInfo, run_program, hinf, w1, w2, hbad, Bool.false_eq_true, if_false, run_askRoom]
  have hsizeOf := ok.run_sz (t := e) (n := ti.size) (by simp [szOf, hti]) w
  by_cases hm0 : m * ti.size = 0
  · have : m = 0 := by
      rcases Nat.mul_eq_zero.1 hm0 with h' | h'
      · exact h'
      · omega
    subst this
    have e0 : ∀ f : Nat → Value, (Array.range (0 * ti.size)).map f = #[] := fun f => by apply Array.eq_empty_of_size_eq_zero; simp
    simp only [Int.ofNat_eq_natCast, Int.toNat_natCast, hsizeOf, Result.andThen_ok, if_pos hm0, Sem.run_bind, Sem.run_pure, run_newRow, e0]
  · simp only [Int.ofNat_eq_natCast, Int.toNat_natCast, hsizeOf, Result.andThen_ok, if_neg hm0, Sem.run_bind, hzv, Sem.run_pure, hzs, run_newRow]

theorem natOf_spec {a : AV} {n : Nat} (h : natOf a = some n) {v : Value} (hv : VR ρ σ a v) : ∃ k, v = .int k (Int.ofNat n) := by
  unfold natOf at h
  split at h
  · cases h; exact ⟨_, hv⟩
  · cases h

theorem partA_ok (ok : EnvOK E) {t : TypeId} {cs : List AV} {off : Nat} {a : AV} (hx : partA E t cs off = some a) {xs : Array Value} (hc : VRs ρ σ cs xs.toList) : ∃ v, (part t xs off).run E.P w = .ok v w ∧ VR ρ σ a v := by
  unfold partA at hx
  split at hx
  · cases hx
  rename_i ti hti
  have hag := ok.run_isAgg hti w
  have hsize := ok.run_sz (t := t) (n := ti.size) (by simp [szOf, hti]) w
  split at hx
  · rename_i hA
    split at hx
    case h_2 => cases hx
    rename_i l hl
    cases hx
    obtain ⟨h1, h2⟩ := sub_eq hl
    rw [hA] at hag
    refine ⟨.agg (xs.extract off (off + ti.size)), ?_, _, rfl, ?_⟩
    · simp [part, hag, hsize]
    · rw [h1]
      have := (hc.drop off).take ti.size
      have e : (xs.extract off (off + ti.size)).toList = (xs.toList.drop off).take ti.size := by
        rw [Array.toList_extract, List.extract_eq_take_drop]
        congr 1; omega
      rw [e]; exact this
  · rename_i hA
    rw [nth_eq] at hx
    obtain ⟨v, hv1, hv2⟩ := hc.nth hx
    rw [hA] at hag
    have : xs[off]? = some v := by simpa using hv1
    exact ⟨v, by simp [part, hag, this], hv2⟩

include ok h he in
theorem oField_ok {t : TypeId} {x : Operand} {f : Nat} (hx : oField E tm s t x f = some r) : ResOK B ρ σ r w ((do pure (.value (← Instr.field t (ev x) f)) : Sem Next).run E.P w) := by
  unfold oField at hx
  split at hx
  case h_2 => cases hx
  rename_i fs hd
  split at hx
  case h_2 => cases hx
  rename_i cs ha
  split at hx
  case h_2 => cases hx
  rename_i fd hf
  obtain ⟨a, hp, rfl⟩ := val1_spec hx
  obtain ⟨xs, hv, hc⟩ := he x _ ha
  obtain ⟨v, hv1, hv2⟩ := partA_ok (w := w) ok hp hc
  refine res_of_val0 h (v := v) ?_ hv2
  have hu := ok.run_und hd w
  rw [nth_eq] at hf
  have hf' : fs[f]? = some fd := by simpa using hf
  simp only [Instr.field, Sem.run_bind, hu, Result.andThen_ok, hf', hv, asAgg, Sem.run_pure, hv1]

include ok h he in
theorem oIndexAddr_ok {t : TypeId} {x ix : Operand} (hx : oIndexAddr E tm s t x ix = some r) : ResOK B ρ σ r w ((do pure (.value (← Instr.indexAt t (ev x) (ev ix))) : Sem Next).run E.P w) := by
  unfold oIndexAddr at hx
  split at hx
  · cases hx
  rename_i a ha
  split at hx
  case h_2 => cases hx
  rename_i b hb
  obtain ⟨v, hv, rfl⟩ := val1_spec hx
  unfold indexAddrA at hv
  split at hv
  · cases hv
  rename_i k hk
  obtain ⟨kd, hkv⟩ := natOf_spec hk (he ix b hb)
  split at hv
  · rename_i n e i o hd
    split at hv
    case h_2 => cases hv
    rename_i z hlt hsz
    cases hv
    rw [blt_iff] at hlt
    have hlt : k < n := by simpa using hlt
    obtain ⟨L, hL, hp⟩ := he x _ ha
    have hu := ok.run_und hd w
    have hs := ok.run_sz hsz w
    refine res_of_val0 h (v := .pointer (some ⟨L.blk, L.sh + o + k * z, none⟩)) ?_ ⟨L, hL, by rw [Nat.add_assoc]⟩
    have hin : 0 ≤ (Int.ofNat k) ∧ (Int.ofNat k) < (n : Int) := ⟨by simp, by simpa using hlt⟩
    simp only [Instr.indexAt, hkv, asIntOf, Sem.run_bind, Sem.run_pure, Result.andThen_ok, hu, hp, Instr.sureAddr]
    rw [if_pos hin]
    simp only [Sem.run_bind, hs, Result.andThen_ok, Sem.run_pure, addr_add]
    simp
  · rename_i e i o n c sz hd
    split at hv
    case h_2 => cases hv
    rename_i z hlt hsz
    split at hv
    case h_2 => cases hv
    rename_i hzz
    cases hv
    have hzz : z = sz := Nat.eq_of_beq_eq_true hzz
    rw [blt_iff] at hlt
    have hlt : k < n := by simpa using hlt
    obtain ⟨L, ad, c', hL, hp, h1, h2, h3⟩ := he x _ ha
    have hu := ok.run_und hd w
    have hs := ok.run_sz hsz w
    obtain ⟨rfl, _⟩ := h3.resolve_left (by omega)
    refine res_of_val0 h (v := .pointer (some ⟨L.blk, L.sh + o + k * z, none⟩)) ?_ ⟨L, hL, by rw [Nat.add_assoc]⟩
    have hin : 0 ≤ (Int.ofNat k) ∧ (Int.ofNat k) < (n : Int) := ⟨by simp, by simpa using hlt⟩
    simp only [Instr.indexAt, hkv, asIntOf, Sem.run_bind, Sem.run_pure, Result.andThen_ok, hu, hp]
    rw [if_pos hin]
    simp only [Sem.run_bind, hs, Result.andThen_ok, Sem.run_pure, addr_add]
    simp
  · cases hv

include ok h he in
theorem oIndex_ok {t : TypeId} {x ix : Operand} (hx : oIndex E tm s t x ix = some r) : ResOK B ρ σ r w ((do pure (.value (← Instr.index t (ev x) (ev ix))) : Sem Next).run E.P w) := by
  unfold oIndex at hx
  split at hx
  · cases hx
  rename_i a ha
  split at hx
  case h_2 => cases hx
  rename_i b hb
  obtain ⟨v, hv, rfl⟩ := val1_spec hx
  unfold indexA at hv
  split at hv
  · cases hv
  rename_i k hk
  obtain ⟨kd, hkv⟩ := natOf_spec hk (he ix b hb)
  split at hv
  · rename_i n e cs hd
    split at hv
    case h_2 => cases hv
    rename_i z hlt hsz
    rw [blt_iff] at hlt
    have hlt : k < n := by simpa using hlt
    obtain ⟨xs, hp, hc⟩ := he x _ ha
    have hu := ok.run_und hd w
    have hs := ok.run_sz hsz w
    obtain ⟨u, hu1, hu2⟩ := partA_ok (w := w) ok hv hc
    refine res_of_val0 h (v := u) ?_ hu2
    have hin : 0 ≤ (Int.ofNat k) ∧ (Int.ofNat k) < (n : Int) := ⟨by simp, by simpa using hlt⟩
    simp only [Instr.index, hkv, asIntOf, Sem.run_bind, Sem.run_pure, Result.andThen_ok, hu, hp]
    rw [if_pos hin]
    simp only [Sem.run_bind, hs, Result.andThen_ok]
    simpa using hu1
  · rename_i l hd
    split at hv
    case h_2 => cases hv
    rename_i c hc
    cases hv
    obtain ⟨sb, hp, hl⟩ := he x _ ha
    have hu := ok.run_und hd w
    rw [nth_eq, ← hl] at hc
    unfold bytesNat at hc
    rw [List.getElem?_map] at hc
    cases hcc : sb.data.toList[k]? with
    | none => rw [hcc] at hc; cases hc
    | some by_ =>
      rw [hcc] at hc
      cases hc
      refine res_of_val0 h (v := .int .u8 (Int.ofNat by_.toNat)) ?_ rfl
      have hg : sb[k]? = some by_ := by
        have hlt : k < sb.size := by
          have := (List.getElem?_eq_some_iff.1 hcc).1
          simpa using this
        rw [getElem?_pos sb k hlt]
        congr 1
        have h2 : sb.data[k]'hlt = by_ := by simpa using (List.getElem?_eq_some_iff.1 hcc).2
        exact h2
      simp only [Instr.index, hkv, asIntOf, Sem.run_bind, Sem.run_pure, Result.andThen_ok, hu, hp]
      simp [hg]
  · cases hv
end
end Go.Eng

/- The engine: an abstract machine that runs closed code of any program, and its proof: part 7 of 14. No condition. -/
import Derived.Test.YtjhnpcnamclfbaaGreatDoorE06
import Derived.Lib.UnsafeStr
import Derived.AtR
/-! The engine's operations are the machine's: calls, every operation. No condition. -/
namespace Go.Eng
open Go.RowKit

section
variable {E : Env} {B : Base} {ρ ρ' : Rho} {σ : Nat → Value} {s s' : St} {w w' : World} {tm : T AV} {ev : Operand → Value} {r : Res}

theorem callA_ok (ok : EnvOK E) (h : R B ρ σ s w) {f : FuncId} {args : List AV} {va : Array Value} (ha : VRs ρ σ args va.toList) (hx : callA E s f args = some r) :
    ResOK B ρ σ r w ((callFunc f va).run E.P w) := by
  unfold callA at hx
  split at hx
  · cases hx
  rename_i i hf
  split at hx
  · cases hx
  rename_i hng
  split at hx
  · rename_i c hb
    cases hx
    obtain ⟨h1, h2⟩ := ok.fns f i hf
    have hname : (i.fn.name == "runtime.NumGoroutine") = false := by rw [h2] at hng; exact hng
    have hname' : i.fn.name ≠ "runtime.NumGoroutine" := by simpa using hname
    have : (callFunc f va).run E.P w = .ok (.enter f va) w := by
      simp [callFunc, h1, hname', hb]
    rw [this]
    exact ⟨Kept.refl _ _, ρ, Ext.refl _, h, va, rfl, ha⟩
  · rename_i hb
    exact extA_ok ok h hf hng hb ha hx

theorem rowAt_bytes {P : Program} {e : TypeId} (hc : P.cellsOf e = 1) (count off n : Nat) (hn : off + n ≤ count) : liesAt P P.depth e count off e n = true := by
  have hd : P.depth = (2 * (P.types.size + Made.depth) + 1) + 1 := rfl
  rw [hd]
  simp only [liesAt, Bool.or_eq_true]
  left
  rw [hd]
  simp [rowAt, hc, hn, sameLayout, Nat.mod_one]

theorem strOf_bytes {l : List AV} {r : List Nat} {vs : List Value} (h : strOf l = some r) (hv : VRs ρ σ l vs) : ∃ bs : List UInt8, bs.map UInt8.toNat = r ∧ vs = bs.map fun b => Value.int .u8 b.toNat := by
  obtain ⟨h1, h2⟩ := strOf_rel h hv
  refine ⟨r.map Nat.toUInt8, ?_, ?_⟩
  · rw [List.map_map]
    conv => rhs; rw [← List.map_id r]
    apply List.map_congr_left
    intro n hn
    have := h2 n hn
    simp; omega
  · rw [h1, List.map_map, List.map_map]
    apply List.map_congr_left
    intro n hn
    have := h2 n hn
    simp; omega

theorem unsafeStrA_ok (ok : EnvOK E) (h : R B ρ σ s w) {t ty : TypeId} {ts : List TypeId} {p n : AV} (hx : unsafeStrA E s t p n = some r) {vp vn : Value} (hp : VR ρ σ p vp) (hn : VR ρ σ n vn) :
    ResOK B ρ σ r w ((do pure (.value (← Builtin.unsafeString_ (t :: ts).toArray ty #[vp, vn])) : Sem Next).run E.P w) := by
  have hdef : ∀ q k z, Builtin.unsafeString_ (t :: ts).toArray ty #[.pointer q, .int k z] = (do
        let n ← asInt (.int k z)
        if n < 0 then runtimePanic (.error "unsafe.String: len out of range")
        if n > IntKind.i64.max then unsupported (.unsafePointer "String: a length above the largest int")
        match q with
        | none =>
          if n = 0 then pure (.string .empty)
          else runtimePanic (.error "unsafe.String: ptr is nil and len is not zero")
        | some a =>
          if n = 0 then pure (.string .empty)
          else if ← variablesAt a (← elemOf t) n.toNat then do
            let s ← loadBytes a .empty n.toNat
            freeze a n.toNat
            pure (.string s)
          else unsupported (.unsafePointer "String: not so many bytes at ptr")) := fun _ _ _ => rfl
  have hmax : IntKind.i64.max = 9223372036854775807 := rfl
  unfold unsafeStrA at hx
  split at hx
  · rename_i k
    split at hx
    · cases hx; cases hp; cases hn
      refine res_of_val0 h (v := .string .empty) ?_ ⟨_, rfl, rfl⟩
      rw [hdef]; simp [asInt, asIntOf, hmax]
    · cases hx; cases hn
      obtain ⟨L, hL, rfl⟩ := hp
      refine res_of_val0 h (v := .string .empty) ?_ ⟨_, rfl, rfl⟩
      rw [hdef]; simp [asInt, asIntOf, hmax]
    · cases hx
  · rename_i k n h0
    split at hx
    case h_2 => cases hx
    rename_i i o
    split at hx
    case h_2 => cases hx
    rename_i u cs el wr hu hi
    split at hx
    case h_2 => cases hx
    rename_i hb
    split at hx
    case h_2 => cases hx
    rename_i hsz
    split at hx
    case h_2 => cases hx
    rename_i l hsub
    split at hx
    case h_2 => cases hx
    rename_i rr hstr
    cases hx; cases hn
    obtain ⟨L, hL, rfl⟩ := hp
    simp only [Bool.and_eq_true] at hb
    obtain ⟨⟨hb1, hb2⟩, hb3⟩ := hb
    have hel := isEl_spec hb1
    have hns : n ≤ maxStr := Nat.le_of_ble_eq_true hb2
    have hgi : 1000 ≤ i := Nat.le_of_ble_eq_true hb3
    obtain ⟨c, bt, fr, hc, hbt, hv, hle, hcs, _⟩ := h.block hi hL
    rw [hbt hel.2] at hc
    obtain ⟨h1, h2⟩ := sub_eq hsub
    have hn0 : n ≠ 0 := fun e => by subst e; exact h0 rfl
    have hrel := (hv.drop o).take n
    rw [take_sub _ _ _ _ h2, List.drop_drop, ← h1] at hrel
    obtain ⟨bs, hb1', hb2'⟩ := strOf_bytes hstr hrel
    have hbl : bs.length = n := by
      have := congrArg List.length hb2'
      simp at this; omega
    have hlb := Lib.run_loadBytes (P := E.P) w bs ⟨L.blk, L.sh + o, none⟩ .empty (fun j x hj => by
      have hjl : j < bs.length := (List.getElem?_eq_some_iff.1 hj).1
      rw [addr_add, cell_at hc]
      have : (bs.map fun b => Value.int .u8 b.toNat)[j]? = some (.int .u8 x.toNat) := by simp [hj]
      rw [← hb2', List.getElem?_take, if_pos (by omega), List.getElem?_drop] at this
      simpa using this)
    rw [hbl] at hlb
    obtain ⟨inf, hinf, hs1⟩ := ok.sz hsz
    have hcells : E.P.cellsOf u = 1 := by simp [Program.cellsOf, hinf, hs1]
    have hsh : w.shape? L.blk = some (u, c.size) := by unfold World.shape?; rw [hc, hel.1]
    have hlies := rowAt_bytes (P := E.P) hcells c.size (L.sh + o) n (by omega)
    have k : Upd w L.blk (.cells c (elOf el) (if fr.1 == fr.2 then (L.sh + o, L.sh + o + n) else (min fr.1 (L.sh + o), max fr.2 (L.sh + o + n)))) (w.freeze ⟨L.blk, L.sh + o, none⟩ n) := upd_freeze (lo := fr.1) (hi := fr.2) hc _ _ hn0
    obtain ⟨ob, hob, hbo⟩ := h.here hi hL
    obtain ⟨c', bt', fr', hob', hbt', z, r1, r2, r3, _⟩ := hbo
    rw [hc] at hob; cases hob; cases hob'
    refine res_of_val (v := .string ⟨bs.toArray⟩) ?_ (k.below (h.own i _ L hi hL hgi)) (Ext.refl _) (h.upd hi hL hgi k ⟨_, _, _, rfl, fun _ => rfl, z, r1, r2, r3, fun e => by cases e⟩) ⟨_, rfl, by rw [← hb1']; rfl⟩
    have hms : maxStr ≤ 9223372036854775807 := by unfold maxStr; omega
    have h63 : ¬ (9223372036854775807 : Int) < (n : Int) := by omega
    rw [hdef]
    have hu' := ok.run_und hu w
    have hvar : (variablesAt ⟨L.blk, L.sh + o, none⟩ u n).run E.P w = .ok true w := by
      simp [variablesAt, hsh, hcells, hlies]
    have hemp : (ByteArray.empty.data ++ bs.toArray) = bs.toArray := by simp
    simp only [asInt, asIntOf, hmax, Sem.run_bind, Sem.run_pure, Result.andThen_ok]
    rw [if_neg (by simp), if_neg (by simpa using h63)]
    rw [if_neg (by simpa using hn0)]
    have hnn : (Int.ofNat n).toNat = n := Int.toNat_natCast n
    simp only [elemOf, Sem.run_bind, hu', Sem.run_pure, Result.andThen_ok, hnn, hvar, if_true, hlb, run_freeze, hemp]
  · cases hx

theorem arr1 {va : Array Value} {v : Value} (h : va.toList = [v]) : va = #[v] := Array.ext' (by simpa using h)
theorem arr2 {va : Array Value} {v u : Value} (h : va.toList = [v, u]) : va = #[v, u] := Array.ext' (by simpa using h)

theorem builtinA_ok (ok : EnvOK E) (h : R B ρ σ s w) {b : Builtin} {ats : Array TypeId} {ty : TypeId} {cs : Array Bool} {args : List AV} {va : Array Value} (ha : VRs ρ σ args va.toList)
    (hx : builtinA E s b ats.toList args = some r) : ResOK B ρ σ r w ((builtin b ats ty cs va).run E.P w) := by
  unfold builtinA at hx
  split at hx
  · -- append
    rename_i t u x y hats
    obtain ⟨v, r1, e1, hv, v2, r2, e2, hu, hr⟩ := ha
    cases hr; subst e2
    rw [arr2 e1, show ats = #[t, u] from Array.ext' (by simpa using hats)]
    exact appendA_ok ok h hx hv hu
  · -- len
    rename_i t ts x hats
    obtain ⟨v, r1, e1, hv, hr⟩ := ha
    cases hr
    obtain ⟨a, hl, rfl⟩ := val1_spec hx
    rw [arr1 e1, show ats = (t :: ts).toArray from Array.ext' (by simpa using hats)]
    obtain ⟨u, hu1, hu2⟩ := lenA_ok ok h (ts := ts) (ty := ty) hl hv
    exact res_of_val0 h hu1 hu2
  · -- cap
    rename_i t ts x hats
    obtain ⟨v, r1, e1, hv, hr⟩ := ha
    cases hr
    obtain ⟨a, hl, rfl⟩ := val1_spec hx
    rw [arr1 e1, show ats = (t :: ts).toArray from Array.ext' (by simpa using hats)]
    obtain ⟨u, hu1, hu2⟩ := capA_ok ok (w := w) (ts := ts) (ty := ty) hl hv
    exact res_of_val0 h hu1 hu2
  · -- copy
    rename_i t ts x y hats
    obtain ⟨v, r1, e1, hv, v2, r2, e2, hu, hr⟩ := ha
    cases hr; subst e2
    rw [arr2 e1, show ats = (t :: ts).toArray from Array.ext' (by simpa using hats)]
    exact copyA_ok (u := 0) (ty := 0) ok h hx hv hu
  · -- clear
    rename_i t ts x hats
    obtain ⟨v, r1, e1, hv, hr⟩ := ha
    cases hr
    rw [arr1 e1, show ats = (t :: ts).toArray from Array.ext' (by simpa using hats)]
    exact clearA_ok ok h hx hv
  · -- max
    rename_i k a l
    obtain ⟨v, r1, e1, hv, hr⟩ := ha
    cases hv
    obtain ⟨z, hl, rfl⟩ := val1_spec hx
    obtain ⟨u, hu1, hu2⟩ := foldMax_ok (P := E.P) (w := w) hl hr
    refine res_of_val0 h (v := u) ?_ hu2
    unfold Builtin.max_
    rw [e1]; exact hu1
  · -- min
    rename_i k a l
    obtain ⟨v, r1, e1, hv, hr⟩ := ha
    cases hv
    obtain ⟨z, hl, rfl⟩ := val1_spec hx
    obtain ⟨u, hu1, hu2⟩ := foldMin_ok (P := E.P) (w := w) hl hr
    refine res_of_val0 h (v := u) ?_ hu2
    unfold Builtin.min_
    rw [e1]; exact hu1
  · -- recover
    cases hx
    exact ⟨Kept.refl _ _, ρ, Ext.refl _, rfl, rfl, rfl⟩
  · -- unsafe.SliceData
    obtain ⟨v, r1, e1, hv, hr⟩ := ha
    cases hr; cases hv; cases hx
    rw [arr1 e1]
    exact res_of_val0 h (Lib.run_unsafeSliceData_nil _ _ _ _ _) rfl
  · rename_i i o n c sz
    obtain ⟨v, r1, e1, hv, hr⟩ := ha
    cases hr; cases hx
    obtain ⟨L, a, c', hL, rfl, h1, h2, h3⟩ := hv
    rw [arr1 e1]
    have hc' : c' ≠ 0 := by omega
    rcases h3 with h3 | ⟨h3, _⟩
    · exact absurd h3 hc'
    · subst h3
      exact res_of_val0 h (Lib.run_unsafeSliceData_row _ _ _ _ _ _ hc') ⟨L, hL, rfl⟩
  · -- unsafe.String
    rename_i t ts p n hats
    obtain ⟨v, r1, e1, hv, v2, r2, e2, hu, hr⟩ := ha
    cases hr; subst e2
    rw [arr2 e1, show ats = (t :: ts).toArray from Array.ext' (by simpa using hats)]
    exact unsafeStrA_ok ok h hx hv hu
  · cases hx

theorem yield_ok {l : Nat} {L : Loc} (hL : ρ l = some L) {lp : Loop} (hlp : w.heap[L.blk]? = some (.loop lp)) {va : Array Value} (hn : va.size = lp.params.size) {args : List AV} (ha : VRs ρ σ args va.toList) {P : Program} :
    ResOK B ρ σ (.round l args) w ((Instr.yield L.blk va).run P w) := by
  have hg : (Instr.getLoop L.blk).run P w = .ok lp w := by simp [Instr.getLoop, run_getObj, hlp]
  have : (Instr.yield L.blk va).run P w = .ok (.round L.blk lp.fn ((lp.params.zip va).foldl (fun tmps (t, a) => tmps.setIfInBounds t a) lp.tmps) lp.assign lp.body) w := by
    simp [Instr.yield, hg, hn]
  rw [this]
  refine ⟨Kept.refl _ _, ρ, Ext.refl _, rfl, rfl, L, va.toList, hL, ha, lp, hlp, by simpa using hn, ?_⟩
  congr 1
  rw [← Array.foldl_toList, Array.toList_zip]

theorem oConv_ok (ok : EnvOK E) (h : R B ρ σ s w) (he : EvOK ρ σ tm ev) {a b : TypeId} {x : Operand} (hx : oConv E tm s a b x = some r) :
    ResOK B ρ σ r w ((do pure (.value (← convert a b (ev x))) : Sem Next).run E.P w) := by
  unfold oConv at hx
  split at hx
  · rename_i v hv
    exact convertA_ok ok h hx (he x v hv)
  · cases hx

theorem oAssert_ok (ok : EnvOK E) (h : R B ρ σ s w) (he : EvOK ρ σ tm ev) {x : Operand} {xt t : TypeId} {b : Bool} (hx : oAssert E tm s x t b = some r) :
    ResOK B ρ σ r w ((do pure (.value (← Instr.typeAssert (ev x) xt t b)) : Sem Next).run E.P w) := by
  unfold oAssert at hx
  split at hx
  · cases hx
  split at hx
  · cases hx
  · cases hx
  · cases hx
  rename_i d hn1 hn2 hd
  have hu := ok.run_und hd w
  split at hx
  case h_2 => cases hx
  rename_i t' v hv
  obtain ⟨u, hu1, hu2⟩ := he x _ hv
  split at hx
  · rename_i hb
    cases hx
    have : t' = t := Nat.eq_of_beq_eq_true hb
    subst this
    refine res_of_val0 h (v := .tuple #[u, .bool true]) ?_ ⟨_, rfl, u, _, rfl, hu2, .bool true, _, rfl, rfl, rfl⟩
    rw [hu1]
    unfold Instr.typeAssert
    simp only [Sem.run_bind, hu, Result.andThen_ok]
    simp
  · rename_i hb
    split at hx
    case h_2 => cases hx
    rename_i z hz
    cases hx
    have : t' ≠ t := fun e => by subst e; simp at hb
    obtain ⟨zv, hz1, hz2⟩ := ok.run_zero hz w
    refine res_of_val0 h (v := .tuple #[zv, .bool false]) ?_ ⟨_, rfl, zv, _, rfl, hz2 _ _, .bool false, _, rfl, rfl, rfl⟩
    rw [hu1]
    unfold Instr.typeAssert
    simp only [Sem.run_bind, hu, Result.andThen_ok]
    simp [this, hz1]

theorem oDefer_ok (he : EvOK ρ σ tm ev) {P : Program} {c : Call} {ty : TypeId} (hx : oDefer tm c = some r) : ResOK B ρ σ r w ((do pure (.defer (← resolve ev c ty)) : Sem Next).run P w) := by
  unfold oDefer at hx
  split at hx
  case h_2 => cases hx
  rename_i f hc
  split at hx
  · cases hx
  rename_i args hargs
  split at hx
  case h_2 => cases hx
  rename_i f' first cap hf
  cases hx
  obtain ⟨va, vb, hv, h1, h2⟩ := he f _ hf
  have ha := aevals_rel he hargs
  have : (resolve ev c ty).run P w = .ok { target := .fn (.func f') vb, args := va ++ c.args.map ev } w := by
    simp [resolve, hc, hv, Deferred.ofValue]
  simp only [Sem.run_bind, this, Result.andThen_ok, Sem.run_pure]
  refine ⟨Kept.refl _ _, ρ, Ext.refl _, rfl, rfl, _, _, rfl, ?_⟩
  simp only [Array.toList_append, Array.toList_map]
  exact (h1.append ha).append h2

theorem opCallA_ok (ok : EnvOK E) (h : R B ρ σ s w) (he : EvOK ρ σ tm ev) {c : Call} {ty : TypeId} (hx : opCallA E tm s c = some r) :
    ResOK B ρ σ r w ((do let d ← resolve ev c ty; invoke d.target d.args : Sem Next).run E.P w) := by
  unfold opCallA at hx
  rw [aevalsF_eq] at hx
  split at hx
  · cases hx
  rename_i args hargs
  have ha := aevals_rel he hargs
  split at hx
  · rename_i f hc
    split at hx
    · rename_i f' first cap hf
      obtain ⟨va, vb, hv, h1, h2⟩ := he f _ hf
      have : (resolve ev c ty).run E.P w = .ok { target := .fn (.func f') vb, args := va ++ c.args.map ev } w := by
        simp [resolve, hc, hv, Deferred.ofValue]
      simp only [Sem.run_bind, this, Result.andThen_ok, invoke]
      refine callA_ok ok h ?_ hx
      simp only [Array.toList_append, Array.toList_map]
      exact (h1.append ha).append h2
    · rename_i l hf
      split at hx
      case h_2 => cases hx
      rename_i ps as bd df hl
      split at hx
      case h_2 => cases hx
      rename_i hlen
      cases hx
      obtain ⟨L, hL, hv⟩ := he f _ hf
      obtain ⟨ob, hob, z, lp, rfl, e1, e2, e3, e4, e5, e6, e7, _⟩ := h.here hl hL
      have : (resolve ev c ty).run E.P w = .ok { target := .fn (.yield L.blk) #[], args := c.args.map ev } w := by
        simp [resolve, hc, hv, Deferred.ofValue]
      simp only [Sem.run_bind, this, Result.andThen_ok, invoke]
      have hl1 := ha.length
      have hl2 : len args = len ps := Nat.eq_of_beq_eq_true hlen
      rw [len_eq, len_eq] at hl2
      refine yield_ok hL hob ?_ (by simpa using ha)
      have : lp.params.size = ps.length := by rw [← e5]; simp
      rw [this, ← hl2, ← hl1]; simp
    · cases hx
  · rename_i b hc
    obtain ⟨cs, this⟩ : ∃ cs, (resolve ev c ty).run E.P w = .ok { target := .builtin b c.argTypes ty cs, args := c.args.map ev } w := ⟨_, by unfold resolve; rw [hc]; rfl⟩
    simp only [Sem.run_bind, this, Result.andThen_ok, invoke]
    exact builtinA_ok ok h (by simpa using ha) hx
  · cases hx
end
end Go.Eng

/-! Every operation of the engine is the machine's. No condition. -/
namespace Go.Eng
open Go.RowKit

theorem aop0_ok {E : Env} {B : Base} {ρ : Rho} {σ : Nat → Value} {s : St} {w : World} {tm : T AV} {ev : Operand → Value} {r : Res}
    (ok : EnvOK E) (h : R B ρ σ s w) (he : EvOK ρ σ tm ev) {o : Oper} (hx : aop0 E tm s o.op = some r) : ResOK B ρ σ r w ((execOp ev o).run E.P w) := by
  obtain ⟨dst, op, type, pos, after, guard⟩ := o
  cases op
  case move => exact oMove_ok h he hx
  case assign => exact oMove_ok h he hx
  case pick => exact oPick_ok h he hx
  case alloc => exact oAlloc_ok ok h hx
  case box => exact oBox_ok h he hx
  case build => exact oBuild_ok ok h he hx
  case buildSlice => exact oBuildSlice_ok ok h he hx
  case mapUpdate => exact oUpdate_ok ok h he hx
  case insert => exact oUpdate_ok ok h he hx
  case load => exact oLoad_ok ok h he hx
  case store => exact oStore_ok ok h he hx
  case nilCheck => exact oNil_ok h he hx rfl
  case binOp => exact oBin_ok ok h he hx
  case unOp => exact oUn_ok h he fastWrap_eq hx
  case convert => exact oConv_ok ok h he hx
  case makeInterface => exact oIface_ok ok h he hx
  case makeFunc => exact oFunc_ok h he hx
  case makeMap => exact oMap_ok ok h he hx
  case makeSlice => exact oMkSlice_ok ok h he hx
  case slice => exact oSlice_ok ok h he hx
  case fieldAddr => exact oFieldAddr_ok ok h he hx
  case field => exact oField_ok ok h he hx
  case indexAddr => exact oIndexAddr_ok ok h he hx
  case index => exact oIndex_ok ok h he hx
  case lookup => exact oLookup_ok ok h he hx
  case range => exact oRange_ok ok h he hx
  case next => exact oNext_ok h he hx
  case entry => exact oEntry_ok h he hx
  case typeAssert => exact oAssert_ok ok h he hx
  case extract => exact oExtract_ok h he hx
  case call => exact opCallA_ok ok h he hx
  case defer => exact oDefer_ok he hx
  case panic => exact oPanic_ok he hx
  all_goals (exact absurd hx (by intro e; cases e))

/-- What the oracle tells is so. -/
def OraOK (E : Env) (σ : Nat → Value) : Prop :=
  E.on = true → ∀ (o : Op) (as : List AV) (a : AV), oraO o = true → E.ora o as = some a → ∀ (B : Base) (ρ : Rho) (tm : T AV) (ev : Operand → Value) (s : St) (w : World), E.V w → R B ρ σ s w → EvOK ρ σ tm ev → aevals tm o.operands.toList = some as →
    ∀ oper : Oper, oper.op = o → ResOK B ρ σ (.val a s) w ((execOp ev oper).run E.P w)

structure EnvS (E : Env) (σ : Nat → Value) : Prop where
  ok : EnvOK E
  ora : OraOK E σ

theorem EnvOK.quiet {E : Env} (ok : EnvOK E) (h : E.on = false) (σ : Nat → Value) : EnvS E σ := ⟨ok, fun e => by rw [h] at e; cases e⟩

theorem asked_cases {E : Env} {tm : T AV} {s : St} {o : Op} {q : Option Res} {r : Res} (hx : asked o E tm s q = some r) :
    q = some r ∨ (oraO o = true ∧ E.on = true ∧ ∃ as a, aevals tm o.operands.toList = some as ∧ E.ora o as = some a ∧ r = .val a s) := by
  unfold asked at hx
  cases hon : E.on with
  | false => rw [hon] at hx; exact .inl hx
  | true =>
    rw [hon] at hx
    cases h : oraT o E tm with
    | none => rw [h] at hx; exact .inl hx
    | some a =>
      rw [h] at hx
      cases hx
      unfold oraT at h
      rw [bif_eq] at h
      split at h
      · rename_i hb
        obtain ⟨as, h1, h2⟩ := ob_spec h
        exact .inr ⟨hb, rfl, as, a, h1, h2, rfl⟩
      · cases h
theorem aop_cases {E : Env} {tm : T AV} {s : St} {o : Op} {r : Res} (hx : aop E tm s o = some r) :
    aop0 E tm s o = some r ∨ (oraO o = true ∧ E.on = true ∧ ∃ as a, aevals tm o.operands.toList = some as ∧ E.ora o as = some a ∧ r = .val a s) := by
  cases o
  case binOp => exact asked_cases hx
  case convert => exact asked_cases hx
  case slice => exact asked_cases hx
  case index => exact asked_cases hx
  case load => exact asked_cases hx
  case indexAddr => exact asked_cases hx
  case lookup => exact asked_cases hx
  case call => exact asked_cases hx
  all_goals exact .inl hx

theorem aop_ok {E : Env} {B : Base} {ρ : Rho} {σ : Nat → Value} {s : St} {w : World} {tm : T AV} {ev : Operand → Value} {r : Res}
    (ok : EnvS E σ) (hV : E.V w) (h : R B ρ σ s w) (he : EvOK ρ σ tm ev) {o : Oper} (hx : aop E tm s o.op = some r) : ResOK B ρ σ r w ((execOp ev o).run E.P w) := by
  rcases aop_cases hx with hx | ⟨h1, h2, as, a, h3, h4, rfl⟩
  · exact aop0_ok ok.ok h he hx
  · exact ok.ora h2 o.op as a h1 h4 B ρ tm ev s w hV h he h3 o rfl

/-! ### Operations that lay a fresh block and do nothing else -/
/-- The value that comes to a fresh block. -/
inductive SK where
  | ptr
  | slice (n m z : Nat)
  | map
def SK.at : SK → Nat → AV
  | .ptr, i => .ptr i 0
  | .slice n m z, i => .slice i 0 n m z
  | .map, i => .map i

theorem newCells_eq {s s' : St} {cs : List AV} {el : TypeId} {i : Nat} (h : newCells s cs el = some (i, s')) : i = s.next ∧ s.new (.cells cs el true) = some (s.next, s') ∧ elOf el = el := by
  unfold newCells at h
  split at h
  case h_2 => cases h
  rename_i hel
  have e := (St.new_eq h).1
  exact ⟨e, by rw [← e]; exact h, elOf_head hel⟩

theorem bo_new {ρ : Rho} {σ : Nat → Value} {w : World} {cs : List AV} {el : TypeId} {c : Array Value} (hel : elOf el = el) (hc : VRs ρ σ cs c.toList) : BO ρ σ ⟨w.heap.size, 0, c.size⟩ (.cells cs el true) (.cells c el (0, 0)) := by
  have hl := hc.length
  refine ⟨c, el, (0, 0), rfl, fun _ => hel.symm, fun _ => rfl, ?_, ?_, by simp, fun _ o _ => by simp⟩
  · have : (c.toList.drop 0).take cs.length = c.toList := by rw [List.drop_zero, ← hl, List.take_length]
    show VRs ρ σ cs ((c.toList.drop 0).take cs.length)
    rw [this]; exact hc
  · show cs.length ≤ c.size
    rw [← hl]; simp

/-- What such an operation does, told without the memory. -/
def SoftOK (E : Env) (tm : T AV) (o : Oper) (b : Blk) (k : SK) : Prop :=
  ∀ (ρ : Rho) (σ : Nat → Value) (ev : Operand → Value) (w : World), EvOK ρ σ tm ev → ∃ u ob w' e, (execOp ev o).run E.P w = .ok (.value u) w' ∧ New w ob w' ∧ BO ρ σ ⟨w.heap.size, 0, e⟩ b ob ∧
    ∀ (ρ' : Rho) (N : Nat), Ext ρ ρ' → ρ' N = some ⟨w.heap.size, 0, e⟩ → VR ρ' σ (k.at N) u

section
variable {E : Env} (ok : EnvOK E) {tm : T AV} {s s' : St} {v : AV}
include ok

theorem soft_alloc {o : Oper} {t : TypeId} (ho : o.op = .alloc t) (hx : oAlloc E s t = some (.val v s')) : ∃ b k, v = SK.at k s.next ∧ s.new b = some (s.next, s') ∧ SoftOK E tm o b k := by
  unfold oAlloc at hx
  split at hx
  case h_2 => cases hx
  rename_i z hz
  split at hx
  case h_2 => cases hx
  rename_i i s' hn
  cases hx
  obtain ⟨rfl, hn', hel⟩ := newCells_eq hn
  refine ⟨_, .ptr, rfl, hn', fun ρ σ ev w he => ?_⟩
  obtain ⟨v, hv, hr⟩ := ok.run_zero hz w
  refine ⟨.pointer (some ⟨w.heap.size, 0, none⟩), _, _, _, ?_, New.alloc w _, bo_new hel (c := v.cells) (hr ρ σ).cells', fun ρ' N hρ hN => ⟨_, hN, by simp⟩⟩
  obtain ⟨dst, op, type, pos, after, guard⟩ := o
  cases ho
  show (do pure (.value (← Instr.alloc t true (.tuple #[]))) : Sem Next).run E.P w = _
  simp only [Instr.alloc, Sem.run_bind, hv, Result.andThen_ok, newVar, run_newRow, Sem.run_pure]

omit ok in
theorem soft_box {o : Oper} {t : TypeId} {x : Operand} (ho : o.op = .box t x) (hx : oBox tm s t x = some (.val v s')) : ∃ b k, v = SK.at k s.next ∧ s.new b = some (s.next, s') ∧ SoftOK E tm o b k := by
  unfold oBox at hx
  split at hx
  case h_2 => cases hx
  rename_i a ha
  split at hx
  case h_2 => cases hx
  split at hx
  case h_2 => cases hx
  rename_i i s' hn
  cases hx
  obtain ⟨rfl, hn', hel⟩ := newCells_eq hn
  refine ⟨_, .ptr, rfl, hn', fun ρ σ ev w he => ?_⟩
  have hr := he x a ha
  refine ⟨.pointer (some ⟨w.heap.size, 0, none⟩), _, _, _, ?_, New.alloc w _, bo_new hel (c := (ev x).cells) hr.cells', fun ρ' N hρ hN => ⟨_, hN, by simp⟩⟩
  obtain ⟨dst, op, type, pos, after, guard⟩ := o
  cases ho
  show (do pure (.value (← Instr.box t (ev x))) : Sem Next).run E.P w = _
  simp only [Instr.box, newVar, Sem.run_bind, run_newRow, Result.andThen_ok, Sem.run_pure]

theorem soft_map {o : Oper} {t : TypeId} {ro : Option Operand} (ho : o.op = .makeMap t ro) (hx : oMap E tm s t ro = some (.val v s')) : ∃ b k, v = SK.at k s.next ∧ s.new b = some (s.next, s') ∧ SoftOK E tm o b k := by
  unfold oMap at hx
  split at hx
  case h_2 => cases hx
  rename_i kt et hd
  split at hx
  case h_2 => cases hx
  rename_i hres
  split at hx
  case h_2 => cases hx
  rename_i i s' hn
  cases hx
  have e := (St.new_eq hn).1
  subst e
  refine ⟨_, .map, rfl, hn, fun ρ σ ev w he => ?_⟩
  refine ⟨.map (some w.heap.size), .map #[] 0, _, 0, ?_, New.alloc w _, ⟨rfl, #[], rfl, rfl⟩, fun ρ' N hρ hN => ⟨_, hN, rfl⟩⟩
  obtain ⟨dst, op, type, pos, after, guard⟩ := o
  cases ho
  show (do pure (.value (← Instr.makeMap t (ro.map ev))) : Sem Next).run E.P w = _
  have hu := ok.run_und hd w
  cases ro with
  | none => simp [Instr.makeMap]
  | some x =>
    simp only at hres
    split at hres
    · rename_i k n ha
      have hv := he x _ ha
      simp only [VR] at hv
      simp [Instr.makeMap, hu, hv, asInt, asIntOf]
    · cases hres

theorem soft_buildSlice {o : Oper} {t : TypeId} {n : Nat} {parts : Array (Nat × Operand)} (ho : o.op = .buildSlice t n parts) (hx : oBuildSlice E tm s t n parts = some (.val v s')) : ∃ b k, v = SK.at k s.next ∧ s.new b = some (s.next, s') ∧ SoftOK E tm o b k := by
  unfold oBuildSlice at hx
  split at hx
  case h_2 => cases hx
  rename_i e hd
  split at hx
  case h_2 => cases hx
  rename_i z hsz
  split at hx
  · cases hx
  rename_i zv hz
  split at hx
  · cases hx
  rename_i ps hps
  split at hx
  · cases hx
  rename_i hc
  split at hx
  · cases hx
  rename_i cs hf
  split at hx
  · cases hx
  split at hx
  case h_2 => cases hx
  rename_i i s' hn
  cases hx
  obtain ⟨rfl, hn', hel⟩ := newCells_eq hn
  refine ⟨_, .slice n n (z + 1), rfl, hn', fun ρ σ ev w he => ?_⟩
  simp only [Bool.and_eq_true] at hc
  have hc1 := Nat.le_of_ble_eq_true hc.1
  have hc2 : zv.cells.length = z + 1 := by rw [← len_eq]; exact Nat.eq_of_beq_eq_true hc.2
  obtain ⟨zr, hzv, hzr⟩ := ok.run_zero hz w
  have hzc := (hzr ρ σ).cells'
  have hzs : zr.cells.size = z + 1 := by have := hzc.length; rw [hc2] at this; simpa using this
  have hp : PR ρ σ ps (parts.map fun (i, x) => (i, ev x)).toList := by
    rw [Array.toList_map]; exact aparts_rel he hps
  have hu := ok.run_und hd w
  have hs : (sizeOf e).run E.P w = .ok (z + 1) w := ok.run_sz hsz w
  have hrep := rep_rel hzc (by omega) n
  rw [hzs] at hrep
  obtain ⟨c', hc3, hc4, hc5⟩ := fillA_ok (pl := fun i => some (i * (z + 1), z + 1)) (fun i x hx => hx) hf hp hrep
  have hcsz : c'.size = n * (z + 1) := by rw [hc5]; simp
  refine ⟨.slice (some ⟨w.heap.size, 0, none⟩) n n, _, _, _, ?_, New.alloc w _, bo_new hel (c := c') hc4, fun ρ' N hρ hN => ⟨_, _, n, hN, rfl, Nat.le_refl _, Nat.le_refl _, ?_⟩⟩
  · obtain ⟨dst, op, type, pos, after, guard⟩ := o
    cases ho
    show (do pure (.value (← Instr.buildSlice t n (parts.map fun (i, x) => (i, ev x)))) : Sem Next).run E.P w = _
    have hlim : ¬ n * (z + 1) > 2 ^ 24 := by omega
    simp only [Instr.buildSlice, Sem.run_bind, hu, Result.andThen_ok, hs, if_neg hlim]
    by_cases hzero : n * (z + 1) = 0
    · have hn0 : n = 0 := by
        rcases Nat.mul_eq_zero.1 hzero with h' | h'
        · exact h'
        · omega
      subst hn0
      have e0 : ∀ f : Nat → Value, (Array.range (0 * (z + 1))).map f = #[] := fun f => by apply Array.eq_empty_of_size_eq_zero; simp
      rw [e0] at hc3
      simp only [if_pos hzero, e0, hc3]
      simp only [Sem.run_bind, Sem.run_pure, Result.andThen_ok, run_newRow]
    · simp only [if_neg hzero, Sem.run_bind, hzv, Result.andThen_ok, Sem.run_pure, hzs, hc3, run_newRow]
  · by_cases h0 : n = 0
    · exact .inl h0
    · refine .inr ⟨by simp, ?_⟩
      simp [hcsz]


theorem soft_makeSlice {o : Oper} {t : TypeId} {l c : Operand} (ho : o.op = .makeSlice t l c) (hx : oMkSlice E tm s t l c = some (.val v s')) : ∃ b k, v = SK.at k s.next ∧ s.new b = some (s.next, s') ∧ SoftOK E tm o b k := by
  unfold oMkSlice at hx
  split at hx
  · cases hx
  rename_i a ha
  split at hx
  case h_2 => cases hx
  rename_i b hb
  unfold makeSliceA at hx
  split at hx
  case h_2 => cases hx
  rename_i e k n k' m hd
  split at hx
  case h_2 => cases hx
  rename_i ti z hti hz
  split at hx
  case h_2 => cases hx
  rename_i hc
  split at hx
  case h_2 => cases hx
  rename_i i s' hn
  cases hx
  obtain ⟨rfl, hn', hel⟩ := newCells_eq hn
  refine ⟨_, .slice n m ti.size, rfl, hn', fun ρ σ ev w he => ?_⟩
  simp only [Bool.and_eq_true] at hc
  obtain ⟨⟨⟨⟨hc1, hc2⟩, hc3⟩, hc4⟩, hc5⟩ := hc
  have hc1 := Nat.le_of_ble_eq_true hc1
  have hc2 := Nat.le_of_ble_eq_true hc2
  have hc3 := Nat.le_of_ble_eq_true hc3
  have hc4 : z.cells.length = ti.size := by rw [← len_eq]; exact Nat.eq_of_beq_eq_true hc4
  rw [blt_iff] at hc5
  have hc5 : 0 < ti.size := by simpa using hc5
  unfold maxStr at hc3
  have hva := he l _ ha
  have hvb := he c _ hb
  simp only [VR] at hva hvb
  obtain ⟨zr, hzv, hzr⟩ := ok.run_zero hz w
  have hzc := (hzr ρ σ).cells'
  have hzs : zr.cells.size = ti.size := by have := hzc.length; rw [hc4] at this; simpa using this
  have hu := ok.run_und hd w
  obtain ⟨inf, hinf, hsz, hby, _⟩ := ok.ty e ti hti
  have hrep := rep_rel hzc (by omega) m
  rw [hzs] at hrep
  refine ⟨.slice (some ⟨w.heap.size, 0, none⟩) n m, _, _, _, ?_, New.alloc w _, bo_new hel (c := (Array.range (m * ti.size)).map (zr.cells[· % ti.size]!)) hrep, fun ρ' N hρ hN => ⟨_, _, m, hN, rfl, hc1, Nat.le_refl _, .inr ⟨by simp, by simp⟩⟩⟩
  obtain ⟨dst, op, type, pos, after, guard⟩ := o
  cases ho
  show (do pure (.value (← Instr.makeSlice t (ev l) (ev c))) : Sem Next).run E.P w = _
  have w1 : IntKind.i64.wrap (Int.ofNat n) = Int.ofNat n := wrap_i64_nat n (by omega)
  have w2 : IntKind.i64.wrap (Int.ofNat m) = Int.ofNat m := wrap_i64_nat m (by omega)
  have hb1 : (inf.bytes : Int) * Int.ofNat m ≤ 2 ^ 48 := by
    rw [hby]
    have : ((ti.bytes * m : Nat) : Int) ≤ (281474976710656 : Nat) := Int.ofNat_le.2 hc2
    simpa using this
  have hbad : ((decide (Int.ofNat m < 0) || decide ((inf.bytes : Int) * Int.ofNat m > 2 ^ 48)) || decide (Int.ofNat n < 0) || decide (Int.ofNat n > Int.ofNat m)) = false := by
    simp only [Bool.or_eq_false_iff, decide_eq_false_iff_not]
    refine ⟨⟨⟨?_, ?_⟩, ?_⟩, ?_⟩
    · simp
    · omega
    · simp
    · simp; omega
  simp only [Instr.makeSlice, hva, hvb, asInt, asIntOf, Sem.run_bind, hu, Result.andThen_ok, Sem.run_pure, typeInfo, run_program, hinf, w1, w2, hbad, Bool.false_eq_true, if_false, run_askRoom]
  have hsizeOf := ok.run_sz (t := e) (n := ti.size) (by simp [szOf, hti]) w
  by_cases hm0 : m * ti.size = 0
  · have : m = 0 := by
      rcases Nat.mul_eq_zero.1 hm0 with h' | h'
      · exact h'
      · omega
    subst this
    have e0 : ∀ f : Nat → Value, (Array.range (0 * ti.size)).map f = #[] := fun f => by apply Array.eq_empty_of_size_eq_zero; simp
    simp only [Int.ofNat_eq_natCast, Int.toNat_natCast, hsizeOf, Result.andThen_ok, if_pos hm0, Sem.run_bind, Sem.run_pure, run_newRow, e0]
  · simp only [Int.ofNat_eq_natCast, Int.toNat_natCast, hsizeOf, Result.andThen_ok, if_neg hm0, Sem.run_bind, hzv, Sem.run_pure, hzs, run_newRow]


/-- An operation that lays a fresh block. -/
theorem soft_of {o : Oper} (hs : softO o.op = true) (hx : aop E tm s o.op = some (.val v s')) : ∃ b k, v = SK.at k s.next ∧ s.new b = some (s.next, s') ∧ SoftOK E tm o b k := by
  cases ho : o.op with
  | alloc t => rw [ho] at hx; exact soft_alloc ok ho hx
  | box t x => rw [ho] at hx; exact soft_box ho hx
  | buildSlice t n ps => rw [ho] at hx; exact soft_buildSlice ok ho hx
  | makeMap t r => rw [ho] at hx; exact soft_map ok ho hx
  | makeSlice t l c => rw [ho] at hx; exact soft_makeSlice ok ho hx
  | _ => rw [ho] at hs; cases hs
end

/-! ### Blocks that the engine has and the machine not yet -/
def Base.push (B : Base) : Base := ⟨B.b, [] :: B.v⟩

section
variable {B : Base} {ρ : Rho} {σ : Nat → Value} {s s' : St} {w w' : World}

theorem R.rebase {B' : Base} (h : R B ρ σ s w) (hb : B'.b = B.b) (hv : B'.v.flatten = B.v.flatten) : R B' ρ σ s w := by
  have hg : ∀ i, B'.get i = B.get i := fun i => by unfold Base.get; rw [hv]
  exact ⟨h.fresh, h.base, h.most, fun i b hi => (h.live i b hi).imp (fun ⟨h1, h2⟩ => ⟨h1, by rw [hg]; exact h2⟩) id, fun i b hi => h.virt i b (by rw [← hg]; exact hi), h.inj, fun i b L hi hL hg => by rw [hb]; exact h.own i b L hi hL hg, h.glob, h.vars,
    fun k hk => h.size k (by rw [← hb]; exact hk), by rw [hv]; exact h.nd⟩

theorem look_mem : ∀ {l : List (Nat × Blk)} {i : Nat} {b : Blk}, look l i = some b → (i, b) ∈ l
  | [], _, _, h => by cases h
  | (j, c) :: l, i, b, h => by
    unfold look at h
    split at h
    · rename_i e; cases h; subst e; simp
    · simp [look_mem h]
theorem look_of : ∀ {l : List (Nat × Blk)} {i : Nat} {b : Blk}, (l.map (·.1)).Nodup → (i, b) ∈ l → look l i = some b
  | [], _, _, _, h => by cases h
  | (j, c) :: l, i, b, hn, h => by
    simp only [List.map_cons, List.nodup_cons] at hn
    unfold look
    rcases List.mem_cons.1 h with e | h
    · cases e; simp
    · have : j ≠ i := fun e => hn.1 (by rw [e]; exact List.mem_map.2 ⟨_, h, rfl⟩)
      rw [if_neg this]; exact look_of hn.2 h

/-- The engine lays a block; the machine will. -/
theorem R.vadd {b : Blk} {i : Nat} {p : List (Nat × Blk)} {q : List (List (Nat × Blk))} (h : R ⟨B.b, p :: q⟩ ρ σ s w) (hs : s.new b = some (i, s')) : R ⟨B.b, ((i, b) :: p) :: q⟩ ρ σ s' w := by
  obtain ⟨rfl, hlt, hn, hg, hpos⟩ := St.new_eq hs
  have hf : (((s.next, b) :: p) :: q).flatten = (s.next, b) :: (p :: q).flatten := by simp
  have hget : ∀ j, Base.get ⟨B.b, ((s.next, b) :: p) :: q⟩ j = if s.next = j then some b else Base.get ⟨B.b, p :: q⟩ j := fun j => by
    unfold Base.get; rw [hf]; rfl
  have hbase := h.base
  refine ⟨fun j hj => h.fresh j (by omega), by rw [hn]; omega, by rw [hn]; omega, fun j c hj => ?_, fun j c hv => ?_, fun j k c c' M M' hgj hj hk hjk hM hM' => ?_, fun j c M hj hM hgj => ?_, fun j c hj hlt' => ?_, h.vars, h.size, ?_⟩
  · rw [hg] at hj
    by_cases e : s.next = j
    · rw [if_pos e] at hj; cases hj; subst e
      exact .inl ⟨h.fresh _ (Nat.le_refl _), by rw [hget, if_pos rfl]⟩
    · rw [if_neg e] at hj
      exact (h.live j c hj).imp (fun ⟨h1, h2⟩ => ⟨h1, by rw [hget, if_neg e]; exact h2⟩) id
  · rw [hget] at hv
    by_cases e : s.next = j
    · rw [if_pos e] at hv; cases hv; subst e
      exact ⟨by rw [hg, if_pos rfl], h.fresh _ (Nat.le_refl _), by omega, hbase⟩
    · rw [if_neg e] at hv
      obtain ⟨h1, h2, h3, h4⟩ := h.virt j c hv
      exact ⟨by rw [hg, if_neg e]; exact h1, h2, by omega, h4⟩
  · have nj : s.next ≠ j := fun e => by subst e; rw [h.fresh _ (Nat.le_refl _)] at hM; cases hM
    have nk : s.next ≠ k := fun e => by subst e; rw [h.fresh _ (Nat.le_refl _)] at hM'; cases hM'
    rw [hg, if_neg nj] at hj; rw [hg, if_neg nk] at hk
    exact h.inj j k c c' M M' hgj hj hk hjk hM hM'
  · have nj : s.next ≠ j := fun e => by subst e; rw [h.fresh _ (Nat.le_refl _)] at hM; cases hM
    rw [hg, if_neg nj] at hj
    exact h.own j c M hj hM hgj
  · rw [hg, if_neg (by omega)] at hj
    exact h.glob j c hj hlt'
  · rw [hf, List.map_cons, List.nodup_cons]
    refine ⟨fun hm => ?_, h.nd⟩
    obtain ⟨⟨j, c⟩, hx, e⟩ := List.mem_map.1 hm
    have e : j = s.next := e
    subst e
    obtain ⟨_, _, h3, _⟩ := h.virt _ c (look_of h.nd hx)
    omega

/-- The machine lays it. -/
theorem R.vdel {b : Blk} {i e : Nat} {p1 p2 : List (Nat × Blk)} {q : List (List (Nat × Blk))} {ob : Obj} (h : R ⟨B.b, (p1 ++ (i, b) :: p2) :: q⟩ ρ σ s w) (k : New w ob w') (hb : BO ρ σ ⟨w.heap.size, 0, e⟩ b ob) :
    Ext ρ (ρ.set i ⟨w.heap.size, 0, e⟩) ∧ R ⟨B.b, (p1 ++ p2) :: q⟩ (ρ.set i ⟨w.heap.size, 0, e⟩) σ s w' := by
  have hf : ((p1 ++ (i, b) :: p2) :: q).flatten = p1 ++ (i, b) :: (p2 ++ q.flatten) := by simp
  have hf' : ((p1 ++ p2) :: q).flatten = p1 ++ (p2 ++ q.flatten) := by simp
  have hnd := h.nd
  rw [show (Base.v ⟨B.b, (p1 ++ (i, b) :: p2) :: q⟩) = (p1 ++ (i, b) :: p2) :: q from rfl, hf] at hnd
  have hmid : i ∉ (p1 ++ (p2 ++ q.flatten)).map (·.1) ∧ ((p1 ++ (p2 ++ q.flatten)).map (·.1)).Nodup := by
    simp only [List.map_append, List.map_cons] at hnd ⊢
    exact List.nodup_cons.1 ((List.perm_middle (l₁ := p1.map (·.1))).nodup_iff.1 hnd)
  have hin : Base.get ⟨B.b, (p1 ++ (i, b) :: p2) :: q⟩ i = some b := by
    unfold Base.get
    rw [show (Base.v ⟨B.b, (p1 ++ (i, b) :: p2) :: q⟩) = (p1 ++ (i, b) :: p2) :: q from rfl, hf]
    exact look_of hnd (by simp)
  have hget : ∀ j c, Base.get ⟨B.b, (p1 ++ p2) :: q⟩ j = some c ↔ (j ≠ i ∧ Base.get ⟨B.b, (p1 ++ (i, b) :: p2) :: q⟩ j = some c) := fun j c => by
    unfold Base.get
    rw [show (Base.v ⟨B.b, (p1 ++ (i, b) :: p2) :: q⟩) = (p1 ++ (i, b) :: p2) :: q from rfl, show (Base.v ⟨B.b, (p1 ++ p2) :: q⟩) = (p1 ++ p2) :: q from rfl, hf, hf']
    constructor
    · intro hx
      have hm := look_mem hx
      refine ⟨fun e => hmid.1 (by rw [← e]; exact List.mem_map.2 ⟨_, hm, rfl⟩), look_of hnd ?_⟩
      simp only [List.mem_append, List.mem_cons] at hm ⊢
      rcases hm with h | h | h <;> simp [h]
    · rintro ⟨hne, hx⟩
      have hm := look_mem hx
      refine look_of hmid.2 ?_
      simp only [List.mem_append, List.mem_cons, Prod.mk.injEq] at hm ⊢
      rcases hm with h | ⟨h, _⟩ | h | h
      · simp [h]
      · exact absurd h hne
      · simp [h]
      · simp [h]
  obtain ⟨v1, v2, v3, v4⟩ := h.virt i b hin
  have hx : Ext ρ (ρ.set i ⟨w.heap.size, 0, e⟩) := Rho.ext_set v2
  have oldρ : ∀ j, j ≠ i → ρ.set i ⟨w.heap.size, 0, e⟩ j = ρ j := fun j hj => by simp [Rho.set, hj]
  have hsz := h.size
  refine ⟨hx, fun j hj => ?_, h.base, h.most, fun j c hj => ?_, fun j c hv => ?_, fun j l c c' M M' hgj hj hl hjl hM hM' => ?_, fun j c M hj hM hgj => ?_, h.glob, fun g hg => ?_, fun j hj => by have := hsz j hj; rw [k.size]; omega, ?_⟩
  · rw [oldρ j (by omega)]; exact h.fresh j hj
  · by_cases e' : j = i
    · subst e'
      rw [v1] at hj; cases hj
      exact .inr ⟨_, ob, Rho.set_same _ _ _, k.here, hb.ext hx⟩
    · rcases h.live j c hj with ⟨h1, h2⟩ | ⟨M, o, hM, ho, hbo⟩
      · exact .inl ⟨by rw [oldρ j e']; exact h1, (hget j c).2 ⟨e', h2⟩⟩
      · exact .inr ⟨M, o, hx _ _ hM, by rw [k.other _ (lt_of_get ho)]; exact ho, hbo.ext hx⟩
  · obtain ⟨hne, hv'⟩ := (hget j c).1 hv
    obtain ⟨h1, h2, h3, h4⟩ := h.virt j c hv'
    exact ⟨h1, by rw [oldρ j hne]; exact h2, h3, h4⟩
  · have loc : ∀ j c M, s.get j = some c → j ≠ i → ρ j = some M → M.blk < w.heap.size := fun j c M hj hne hM => by
      obtain ⟨o, ho, _⟩ := h.here hj hM
      exact lt_of_get ho
    by_cases e1 : j = i
    · subst e1
      rw [Rho.set_same] at hM; cases hM
      have e2 : l ≠ j := Ne.symm hjl
      rw [oldρ l e2] at hM'
      have := loc l c' M' hl e2 hM'
      show w.heap.size ≠ M'.blk
      omega
    · rw [oldρ j e1] at hM
      by_cases e2 : l = i
      · subst e2
        rw [Rho.set_same] at hM'; cases hM'
        have := loc j c M hj e1 hM
        show M.blk ≠ w.heap.size
        omega
      · rw [oldρ l e2] at hM'
        exact h.inj j l c c' M M' hgj hj hl hjl hM hM'
  · by_cases e1 : j = i
    · subst e1; rw [Rho.set_same] at hM; cases hM; exact fun hb => absurd (hsz _ hb) (Nat.lt_irrefl _)
    · rw [oldρ j e1] at hM; exact h.own j c M hj hM hgj
  · rw [oldρ g (by omega)]; exact h.vars g hg
  · rw [show (Base.v ⟨B.b, (p1 ++ p2) :: q⟩) = (p1 ++ p2) :: q from rfl, hf']; exact hmid.2
end
end Go.Eng

/-! The engine's machine is the machine: frames, regions. No condition. -/
namespace Go.Eng
open Go.RowKit

/-! ### Frames -/
def IR (ρ : Rho) : AItem → Item → Prop
  | .code c, it => it = .code c
  | .inBlock id, it => it = .inBlock id
  | .inLoop b, it => it = .inLoop b
  | .reg ops l, it => ∃ is : List Nat, it = .inRegion ops is ∧ is.map (ops[·]?) = l.map some
  | .dreg _ _, _ => False
  | .inRangeFunc l, it => ∃ L, ρ l = some L ∧ it = .inRangeFunc L.blk
  | .endRangeFunc l, it => ∃ L, ρ l = some L ∧ it = .endRangeFunc L.blk
  | .beginRound, it => it = .beginRound

def IRs (ρ : Rho) : List AItem → List Item → Prop
  | [], is => is = []
  | a :: l, is => ∃ i r, is = i :: r ∧ IR ρ a i ∧ IRs ρ l r

theorem IR.ext {ρ ρ' : Rho} (h : Ext ρ ρ') : ∀ {a : AItem} {i : Item}, IR ρ a i → IR ρ' a i
  | .code _, _, e => e
  | .inBlock _, _, e => e
  | .inLoop _, _, e => e
  | .reg _ _, _, e => e
  | .dreg _ _, _, e => e
  | .inRangeFunc _, _, ⟨L, hL, e⟩ => ⟨L, h _ _ hL, e⟩
  | .endRangeFunc _, _, ⟨L, hL, e⟩ => ⟨L, h _ _ hL, e⟩
  | .beginRound, _, e => e
theorem IRs.ext {ρ ρ' : Rho} (h : Ext ρ ρ') : ∀ {l : List AItem} {is : List Item}, IRs ρ l is → IRs ρ' l is
  | [], _, e => e
  | _ :: _, _, ⟨i, r, e, ha, hl⟩ => ⟨i, r, e, ha.ext h, IRs.ext h hl⟩

/-- Deferred calls. -/
def DfR (ρ : Rho) (σ : Nat → Value) : List ADef → List Deferred → Prop
  | [], ds => ds = []
  | .call f args :: l, ds => ∃ va vc r, ds = { target := .fn (.func f) vc, args := va } :: r ∧ VRs ρ σ args (va ++ vc).toList ∧ DfR ρ σ l r
  | .collected i :: l, ds => ∃ L r, ρ i = some L ∧ ds = { target := .collected L.blk, args := #[] } :: r ∧ DfR ρ σ l r

theorem DfR.ext {ρ ρ' : Rho} {σ : Nat → Value} (h : Ext ρ ρ') : ∀ {l : List ADef} {ds : List Deferred}, DfR ρ σ l ds → DfR ρ' σ l ds
  | [], _, e => e
  | .call _ _ :: _, _, ⟨va, vc, r, e, hv, hl⟩ => ⟨va, vc, r, e, VRs.ext h _ _ hv, DfR.ext h hl⟩
  | .collected _ :: _, _, ⟨L, r, hL, e, hl⟩ => ⟨L, r, h _ _ hL, e, DfR.ext h hl⟩

/-- Panics under way. -/
def PnR (ρ : Rho) (σ : Nat → Value) : List (AV × Bool) → List PanicEntry → Prop
  | [], ps => ps = []
  | (a, b) :: l, ps => ∃ v r, ps = { v, recovered := b, goexit := false } :: r ∧ VR ρ σ a v ∧ PnR ρ σ l r
theorem PnR.ext {ρ ρ' : Rho} {σ : Nat → Value} (h : Ext ρ ρ') : ∀ {l : List (AV × Bool)} {ds : List PanicEntry}, PnR ρ σ l ds → PnR ρ' σ l ds
  | [], _, e => e
  | (_, _) :: _, _, ⟨v, r, e, hv, hl⟩ => ⟨v, r, e, VR.ext h _ _ hv, PnR.ext h hl⟩
theorem PnR.append {ρ : Rho} {σ : Nat → Value} : ∀ {l m : List (AV × Bool)} {ds es : List PanicEntry}, PnR ρ σ l ds → PnR ρ σ m es → PnR ρ σ (l ++ m) (ds ++ es)
  | [], _, _, _, e, h => by cases e; exact h
  | (_, _) :: _, _, _, es, ⟨v, r, e, hv, hl⟩, h => by subst e; exact ⟨v, r ++ es, rfl, hv, PnR.append hl h⟩
theorem PnR.plain {ρ : Rho} {σ : Nat → Value} : ∀ {l : List (AV × Bool)} {ds : List PanicEntry}, PnR ρ σ l ds → ds.dropWhile (fun p => !p.goexit) = []
  | [], _, e => by cases e; rfl
  | (_, _) :: _, _, ⟨v, r, e, hv, hl⟩ => by subst e; simp [List.dropWhile, PnR.plain hl]

def MdR (ρ : Rho) (σ : Nat → Value) : AMode → FrameMode → Prop
  | .run, m => m = .run
  | .returning, m => m = .returning
  | .panicking c, m => ∃ ps, m = .panicking ps ∧ PnR ρ σ c ps
theorem MdR.ext {ρ ρ' : Rho} {σ : Nat → Value} (h : Ext ρ ρ') : ∀ {a : AMode} {m : FrameMode}, MdR ρ σ a m → MdR ρ' σ a m
  | .run, _, e => e
  | .returning, _, e => e
  | .panicking _, _, ⟨ps, e, hp⟩ => ⟨ps, e, hp.ext h⟩

def RoR (ρ : Rho) : Option Nat → Option Nat → Prop
  | none, r => r = none
  | some l, r => ∃ L, ρ l = some L ∧ r = some L.blk
theorem RoR.ext {ρ ρ' : Rho} (h : Ext ρ ρ') : ∀ {a m : Option Nat}, RoR ρ a m → RoR ρ' a m
  | none, _, e => e
  | some _, _, ⟨L, hL, e⟩ => ⟨L, h _ _ hL, e⟩

/-! ### Regions in the order of the text -/
section
variable {E : Env} {B : Base} {ρ ρ' : Rho} {σ : Nat → Value} {s s' : St} {w w' : World} {tm : T AV} {r : Res}

theorem Act.evOK (h : R B ρ σ s w) {nt : Nat} {a : Act} (tr : TR ρ σ tm nt a.tmps) : EvOK ρ σ tm a.eval :=
  EvOK.of h tr (fun _ => rfl) (fun _ => rfl) (fun _ => rfl) (fun _ => rfl)

theorem tget_bool {nt : Nat} {tmps : Array Value} (tr : TR ρ σ tm nt tmps) {d : Nat} {b : Bool} (h : tget tm d = .bool b) : tmps[d]? = some (Value.bool b) := by
  have := tr.vals d
  rw [h] at this
  have e : tmps.getD d undef = Value.bool b := this
  rw [Array.getD_eq_getD_getElem?] at e
  cases hx : tmps[d]? with
  | none => rw [hx] at e; simp [undef] at e
  | some v => rw [hx] at e; simp at e; rw [e]

theorem wantedA_ok {ops : Array Oper} {nt : Nat} {tmps : Array Value} (tr : TR ρ σ tm nt tmps) {o : Oper} {b : Bool} (h : wantedA ops tm o = some b) : Region.wanted o (yielded ops tmps) = b := by
  unfold wantedA at h
  unfold Region.wanted
  cases hg : o.guard with
  | none => rw [hg] at h; cases h; rfl
  | some g =>
    obtain ⟨j, want⟩ := g
    rw [hg] at h
    have h' : wantedG ops tm j want = some b := h
    unfold wantedG at h'
    show (yielded ops tmps j == some want) = b
    unfold yielded
    split at h'
    · rename_i oj hoj
      split at h'
      · rename_i d hd
        simp only [hoj, Option.bind_some, hd]
        split at h'
        · rename_i b' hb'
          cases h'
          rw [tget_bool tr hb']
          rfl
        · cases h'
        · cases h'
        · cases h'
        · rename_i hn1 hn2 hn3 hn4
          cases h'
          have hv := tr.vals d
          split
          · rename_i b' hb'
            have e : tmps.getD d undef = .bool b' := by rw [Array.getD_eq_getD_getElem?, hb']; rfl
            rw [e] at hv
            exfalso
            revert hv
            cases htg : tget tm d <;> intro hv <;> first
              | exact hn1 _ htg
              | exact hn2 htg
              | exact hn3 _ htg
              | exact hn4 htg
              | (simp [VR] at hv; done)
              | trace_state
          · rfl
      · rename_i hd
        cases h'
        simp [hoj, hd]
    · rename_i hoj
      cases h'
      simp [hoj]

theorem putT_ok {nt : Nat} {a : Act} (tr : TR ρ σ tm nt a.tmps) {d : Option Tmp} {x : AV} {v : Value} {tm' : T AV} (h : putT tm nt d x = some tm') (hv : VR ρ σ x v) : TR ρ σ tm' nt (a.put d v).tmps := by
  unfold putT at h
  cases d with
  | none => cases h; exact tr
  | some d =>
    cases hb : Nat.blt d nt with
    | false => simp [hb] at h
    | true =>
      simp [hb] at h
      subst h
      have : d < nt := by
        have : Nat.ble (d + 1) nt = true := hb
        exact Nat.le_of_ble_eq_true this
      exact tr.put this hv
end
end Go.Eng

/-! An operation's result rests on its operands alone. No condition. -/
namespace Go.Eng
open Go.RowKit

section
variable {E : Env} {s : St} {tm tm' : T AV}

theorem tmpsOf_mem : ∀ {l : List Operand} {t : Nat}, .tmp t ∈ l → t ∈ tmpsOf l
  | [], t, h => by cases h
  | x :: l, t, h => by
    rcases List.mem_cons.1 h with h | h
    · subst h; simp [tmpsOf]
    · have := tmpsOf_mem h
      cases x <;> simp [tmpsOf, this]

/-- The same operands. -/
def Alike (tm tm' : T AV) (xs : List Operand) : Prop := ∀ x ∈ xs, aeval tm x = aeval tm' x

theorem Alike.of {xs : List Operand} (h : ∀ t ∈ tmpsOf xs, tget tm t = tget tm' t) : Alike tm tm' xs := by
  intro x hx
  cases x with
  | tmp t => show some (tget tm t) = some (tget tm' t); rw [h t (tmpsOf_mem hx)]
  | const v => rfl
  | global g => rfl
  | func f => rfl

theorem aevals_congr : ∀ {xs : List Operand}, Alike tm tm' xs → aevals tm xs = aevals tm' xs
  | [], _ => rfl
  | x :: xs, h => by
    unfold aevals
    rw [h x (by simp), aevals_congr fun y hy => h y (by simp [hy])]

theorem aparts_congr : ∀ {ps : List (Nat × Operand)}, Alike tm tm' (ps.map (·.2)) → aparts tm ps = aparts tm' ps
  | [], _ => rfl
  | (i, x) :: ps, h => by
    unfold aparts
    rw [h x (by simp), aparts_congr fun y hy => h y (by simp at hy ⊢; exact .inr hy)]

theorem aop0_congr {o : Op} (h : Alike tm tm' o.operands.toList) : aop0 E tm s o = aop0 E tm' s o := by
  cases o
  case move x => have := h x (by simp [Op.operands]); simp [aop0, aopT0, oMove, this]
  case assign x => have := h x (by simp [Op.operands]); simp [aop0, aopT0, oMove, this]
  case pick c a b =>
    have h1 := h c (by simp [Op.operands]); have h2 := h a (by simp [Op.operands]); have h3 := h b (by simp [Op.operands])
    simp [aop0, aopT0, oPick, h1, h2, h3]
  case alloc => rfl
  case box t x => have := h x (by simp [Op.operands]); simp [aop0, aopT0, oBox, this]
  case build t ps => have := aparts_congr (tm := tm) (tm' := tm') (ps := ps.toList) (by simpa [Op.operands] using h); simp [aop0, aopT0, oBuild, this]
  case buildSlice t n ps => have := aparts_congr (tm := tm) (tm' := tm') (ps := ps.toList) (by simpa [Op.operands] using h); simp [aop0, aopT0, oBuildSlice, this]
  case insert t m k x =>
    have h1 := h m (by simp [Op.operands]); have h2 := h k (by simp [Op.operands]); have h3 := h x (by simp [Op.operands])
    simp [aop0, aopT0, oUpdate, h1, h2, h3]
  case mapUpdate t m k x =>
    have h1 := h m (by simp [Op.operands]); have h2 := h k (by simp [Op.operands]); have h3 := h x (by simp [Op.operands])
    simp [aop0, aopT0, oUpdate, h1, h2, h3]
  case load t x => have := h x (by simp [Op.operands]); simp [aop0, aopT0, oLoad, this]
  case store t x y => have h1 := h x (by simp [Op.operands]); have h2 := h y (by simp [Op.operands]); simp [aop0, aopT0, oStore, h1, h2]
  case nilCheck x => have := h x (by simp [Op.operands]); simp [aop0, aopT0, oNil, this]
  case binOp op t x y z => have h1 := h x (by simp [Op.operands]); have h2 := h y (by simp [Op.operands]); simp [aop0, aopT0, oBin, h1, h2]
  case unOp op t x => have := h x (by simp [Op.operands]); simp [aop0, aopT0, oUn, this]
  case convert a b x => have := h x (by simp [Op.operands]); simp [aop0, aopT0, oConv, this]
  case makeInterface t x => have := h x (by simp [Op.operands]); simp [aop0, aopT0, oIface, this]
  case makeFunc fn a b =>
    have h1 := aevals_congr (tm := tm) (tm' := tm') (xs := a.toList) fun y hy => h y (by simp [Op.operands] at hy ⊢; exact .inl hy)
    have h2 := aevals_congr (tm := tm) (tm' := tm') (xs := b.toList) fun y hy => h y (by simp [Op.operands] at hy ⊢; exact .inr hy)
    simp [aop0, aopT0, oFunc, h1, h2]
  case makeMap t r =>
    cases r with
    | none => rfl
    | some x => have := h x (by simp [Op.operands, Option.toArray]); simp [aop0, aopT0, oMap, this]
  case makeSlice t x y => have h1 := h x (by simp [Op.operands]); have h2 := h y (by simp [Op.operands]); simp [aop0, aopT0, oMkSlice, h1, h2]
  case slice t x l hi m =>
    have h1 := h x (by simp [Op.operands])
    have h2 : ∀ y, l = some y → aeval tm y = aeval tm' y := fun y hy => h y (by subst hy; simp [Op.operands, Option.toArray])
    have h3 : ∀ y, hi = some y → aeval tm y = aeval tm' y := fun y hy => h y (by subst hy; simp [Op.operands, Option.toArray])
    have o1 : ∀ d, optOf tm d l = optOf tm' d l := fun d => by cases l <;> simp [optOf, h2]
    have o2 : ∀ d, optOf tm d hi = optOf tm' d hi := fun d => by cases hi <;> simp [optOf, h3]
    have h4 : ∀ (v : AV), sliceA E tm s t v l hi = sliceA E tm' s t v l hi := fun v => by
      simp only [sliceA, o1, o2]
    simp [aop0, aopT0, oSlice, h1, h4]
  case fieldAddr t x f => have := h x (by simp [Op.operands]); simp [aop0, aopT0, oFieldAddr, this]
  case field t x f => have := h x (by simp [Op.operands]); simp [aop0, aopT0, oField, this]
  case indexAddr t x y => have h1 := h x (by simp [Op.operands]); have h2 := h y (by simp [Op.operands]); simp [aop0, aopT0, oIndexAddr, h1, h2]
  case index t x y => have h1 := h x (by simp [Op.operands]); have h2 := h y (by simp [Op.operands]); simp [aop0, aopT0, oIndex, h1, h2]
  case lookup t x y c => have h1 := h x (by simp [Op.operands]); have h2 := h y (by simp [Op.operands]); simp [aop0, aopT0, oLookup, h1, h2]
  case range t x => have := h x (by simp [Op.operands]); simp [aop0, aopT0, oRange, this]
  case entry x => have := h x (by simp [Op.operands]); simp [aop0, aopT0, oEntry, this]
  case next x b => have := h x (by simp [Op.operands]); simp [aop0, aopT0, oNext, oNextM, this]
  case typeAssert x xt t c => have := h x (by simp [Op.operands]); simp [aop0, aopT0, oAssert, this]
  case extract x i => have := h x (by simp [Op.operands]); simp [aop0, aopT0, oExtract, this]
  case panic x => have := h x (by simp [Op.operands]); simp [aop0, aopT0, oPanic, this]
  case call c =>
    have hc : Alike tm tm' c.operands.toList := h
    have h1 := aevals_congr (tm := tm) (tm' := tm') (xs := c.args.toList) fun y hy => hc y (by unfold Call.operands; cases c.callee <;> simp_all)
    have h2 : ∀ f, c.callee = .value f → aeval tm f = aeval tm' f := fun f hf => hc f (by unfold Call.operands; rw [hf]; simp)
    show opCallA E tm s c = opCallA E tm' s c
    unfold opCallA
    rw [aevalsF_eq, aevalsF_eq, h1]
    split
    · rfl
    · split
      · rename_i f hf; rw [h2 f hf]
      · rfl
      · rfl
  case defer c =>
    have hc : Alike tm tm' c.operands.toList := h
    have h1 := aevals_congr (tm := tm) (tm' := tm') (xs := c.args.toList) fun y hy => hc y (by unfold Call.operands; cases c.callee <;> simp_all)
    have h2 : ∀ f, c.callee = .value f → aeval tm f = aeval tm' f := fun f hf => hc f (by unfold Call.operands; rw [hf]; simp)
    show oDefer tm c = oDefer tm' c
    unfold oDefer
    split
    · rename_i f hf; rw [h1, h2 f hf]
    · rfl
  all_goals rfl

theorem aopT_congr {o : Op} (h : Alike tm tm' o.operands.toList) : aop E tm s o = aop E tm' s o := by
  have h0 := aop0_congr (E := E) (s := s) h
  have h1 : oraT o E tm = oraT o E tm' := by unfold oraT; rw [aevals_congr h]
  have h2 : ∀ q, asked o E tm s q = asked o E tm' s q := fun q => by unfold asked; rw [h1]
  cases o
  case binOp op t x y z => exact (h2 _).trans (congrArg (asked (.binOp op t x y z) E tm' s) h0)
  case convert a b x => exact (h2 _).trans (congrArg (asked (.convert a b x) E tm' s) h0)
  case slice t x l hi m => exact (h2 _).trans (congrArg (asked (.slice t x l hi m) E tm' s) h0)
  case index t x y => exact (h2 _).trans (congrArg (asked (.index t x y) E tm' s) h0)
  case load t x => exact (h2 _).trans (congrArg (asked (.load t x) E tm' s) h0)
  case indexAddr t x y => exact (h2 _).trans (congrArg (asked (.indexAddr t x y) E tm' s) h0)
  case lookup t x y c => exact (h2 _).trans (congrArg (asked (.lookup t x y c) E tm' s) h0)
  case call c => exact (h2 _).trans (congrArg (asked (.call c) E tm' s) h0)
  all_goals exact h0

/-- What leaves the state as it is. -/
theorem pure_val {o : Op} (hp : pureO E o = true) {r : Res} (hx : aop E tm s o = some r) : ∃ a, r = .val a s := by
  have hx' := aop_cases hx
  clear hx
  rcases hx' with hx | ⟨_, _, _, a, _, _, rfl⟩
  case inr => exact ⟨a, rfl⟩
  have v1 : ∀ {x : Option AV} {r : Res}, val1 s x = some r → ∃ a, r = .val a s := fun h => by
    obtain ⟨a, _, e⟩ := val1_spec h; exact ⟨a, e⟩

  cases o <;> simp only [pureO, Bool.false_eq_true] at hp
  case move => exact v1 hx
  case assign => exact v1 hx
  case pick c a b =>
    replace hx : oPick tm s c a b = some r := hx
    unfold oPick at hx
    split at hx <;> first | exact v1 hx | cases hx
  case build t ps =>
    replace hx : oBuild E tm s t ps = some r := hx
    unfold oBuild at hx
    repeat' (split at hx)
    all_goals first | (cases hx; done) | (cases hx; exact ⟨_, rfl⟩)
  case load t a =>
    replace hx : oLoad E tm s t a = some r := hx
    unfold oLoad at hx
    split at hx <;> first | exact v1 hx | cases hx
  case convert a b x =>
    replace hx : oConv E tm s a b x = some r := hx
    unfold oConv at hx
    split at hx
    case h_2 => cases hx
    rename_i v _
    split at hp
    case h_2 => cases hp
    rename_i k hk
    have hx2 : convIntA s k v = some r := by
      unfold convertA at hx
      split at hx
      · cases hx
      · simpa only [hk] using hx
    unfold convIntA at hx2
    split at hx2
    · cases hx2; exact ⟨_, rfl⟩
    · cases hx2
  case nilCheck x =>
    replace hx : oNil tm s x = some r := hx
    unfold oNil at hx
    split at hx <;> first | (cases hx; done) | (cases hx; exact ⟨_, rfl⟩)
  case binOp op t x y z =>
    replace hx : oBin E tm s op t x y = some r := hx
    unfold oBin at hx
    obtain ⟨a, _, hx⟩ := ob_spec hx
    obtain ⟨b, _, hx⟩ := ob_spec hx
    rw [bif_eq] at hx
    split at hx
    · unfold nilEq at hx
      repeat' (split at hx)
      all_goals first | (cases hx; done) | (cases hx; exact ⟨_, rfl⟩)
    · exact v1 hx
  case unOp op t x =>
    replace hx : oUn tm s op x = some r := hx
    unfold oUn at hx
    repeat' (split at hx)
    all_goals first | (cases hx; done) | (cases hx; exact ⟨_, rfl⟩)
  case makeInterface t x =>
    replace hx : oIface E tm s t x = some r := hx
    unfold oIface at hx
    repeat' (split at hx)
    all_goals first | (cases hx; done) | (cases hx; exact ⟨_, rfl⟩)
  case makeFunc fn a b =>
    replace hx : oFunc tm s fn a b = some r := hx
    unfold oFunc at hx
    repeat' (split at hx)
    all_goals first | (cases hx; done) | (cases hx; exact ⟨_, rfl⟩)
  case slice t x l hi m =>
    replace hx : oSlice E tm s t x l hi m = some r := hx
    unfold oSlice at hx
    repeat' (split at hx)
    all_goals first | (cases hx; done) | exact v1 hx
  case fieldAddr t x f =>
    replace hx : oFieldAddr E tm s t x f = some r := hx
    unfold oFieldAddr at hx
    repeat' (split at hx)
    all_goals first | (cases hx; done) | (cases hx; exact ⟨_, rfl⟩)
  case field t x f =>
    replace hx : oField E tm s t x f = some r := hx
    unfold oField at hx
    repeat' (split at hx)
    all_goals first | (cases hx; done) | exact v1 hx
  case indexAddr t x y =>
    replace hx : oIndexAddr E tm s t x y = some r := hx
    unfold oIndexAddr at hx
    repeat' (split at hx)
    all_goals first | (cases hx; done) | exact v1 hx
  case index t x y =>
    replace hx : oIndex E tm s t x y = some r := hx
    unfold oIndex at hx
    repeat' (split at hx)
    all_goals first | (cases hx; done) | exact v1 hx
  case lookup t x y c =>
    replace hx : oLookup E tm s t x y c = some r := hx
    unfold oLookup at hx
    repeat' (split at hx)
    all_goals first | (cases hx; done) | exact v1 hx
  case typeAssert x xt t c =>
    replace hx : oAssert E tm s x t c = some r := hx
    unfold oAssert at hx
    repeat' (split at hx)
    all_goals first | (cases hx; done) | (cases hx; exact ⟨_, rfl⟩)
  case extract x i =>
    replace hx : oExtract tm s x i = some r := hx
    unfold oExtract at hx
    repeat' (split at hx)
    all_goals first | (cases hx; done) | exact v1 hx
  case call c =>
    replace hx : opCallA E tm s c = some r := hx
    unfold opCallA at hx
    unfold pureC at hp
    split at hx
    · cases hx
    split at hx
    · rename_i f hf; rw [hf] at hp; cases hp
    · rename_i b hf
      rw [hf] at hp
      cases b <;> simp only [pureB, Bool.false_eq_true] at hp
      all_goals (
        unfold builtinA at hx
        split at hx
        all_goals first | (cases hx; done) | exact v1 hx | contradiction)
    · cases hx
end
end Go.Eng

/- The engine: an abstract machine that runs closed code of any program, and its proof: part 12 of 12. No condition. -/
import Derived.Test.YtgbflpajaihmmaaGreatDoorE11
/-! Known calls with structs among their arguments. No condition. -/
namespace Go.Eng
open Go.RowKit
noncomputable section

def plainG (a : AV) : Bool := plainA a || (match a with | .tuple l => l.all plainA | .agg l => l.all plainA | _ => false)
theorem plainGs_any {ρ ρ' : Rho} {σ : Nat → Value} : ∀ {l : List AV} {vs : List Value}, l.all plainG = true → VRs ρ σ l vs → VRs ρ' σ l vs
  | [], _, _, h => h
  | a :: l, _, hp, ⟨v, r, he, h, hl⟩ => by
    simp only [List.all_cons, Bool.and_eq_true] at hp
    exact ⟨v, r, he, plainV_any hp.1 h, plainGs_any hp.2 hl⟩
/-- The engine's run of a call with these arguments. -/
def rowRunG (E : Env) (gl : List Gv) (f : FuncId) (args : List AV) (n : Nat) (v : AV) : Bool :=
  match callN E (stOf gl) f args n with
  | some (x, _) => args.all plainG && plainG v && avEq x v
  | none => false
theorem PRow.ofGr {E : Env} {σ : Nat → Value} (ok : EnvS E σ) (mo : MemoOK E σ) {gl : List Gv} {f : FuncId} {args : List AV} {n : Nat} {v : AV} (h : rowRunG E gl f args n v = true) : PRow E.P gl σ f args v E.V := by
  intro w va hv0 ⟨ρ, hR⟩ ha
  unfold rowRunG at h
  split at h
  case h_2 => cases h
  rename_i x s' hx
  simp only [Bool.and_eq_true] at h
  obtain ⟨⟨hp, hv⟩, he⟩ := h
  have := avEq_eq _ _ he
  subst this
  intro cs
  obtain ⟨e, w', fr, ⟨u, ρ', rfl, _, hu, _, hB⟩, h2⟩ := callN_ok ok mo hv0 hR (plainGs_any hp ha) hx cs
  exact ⟨_, w', fr, ⟨u, rfl, plainV_any hv hu, hB.at⟩, h2⟩
end
end Go.Eng

/- Contracts by closed runs that look at memory; rows with structs. No condition. -/
import Derived.Test.YtnnhijfbdkokkaaGreatDoorBd
import Derived.Test.YtnnhijfbdkokkaaGreatDoorE14
namespace Go.Proofs.YtnnhijfbdkokkaaGreatDoor
open Go Go.Eng Go.RowKit
abbrev tInts : Nat := 46
abbrev tRule : Nat := 131
abbrev tSpan : Nat := 231
abbrev tStr : Nat := 9
noncomputable section
set_option maxRecDepth 100000

theorem tellsVs_funs {ρ ρ' : Rho} {σ : Nat → Value} : ∀ {l : List AV}, l.all tellsV = true → ∀ {u v : List Value}, VRs ρ σ l u → VRs ρ' σ l v → u = v
  | [], _, _, _, h1, h2 => h1.trans h2.symm
  | a :: l, ha, _, _, ⟨x, r, e, h1, hl⟩, ⟨y, q, e', h2, hq⟩ => by
    simp only [List.all_cons, Bool.and_eq_true] at ha
    rw [e, e', tellsV_fun ha.1 h1 h2, tellsVs_funs ha.2 hl hq]

/-- A contract is a row, structs among its arguments. -/
theorem KRow.ofC {V : World → Prop} {σ : Nat → Value} {m : Int} (hm : σ kM = .int .i64 m) {f : FuncId} {args : List AV} {a : AV} {va : Array Value} {u : Value} (ht : args.all tellsV = true) (hg : args.all plainG = true) (ha : VRs (fun _ => none) σ args va.toList) (hp : plainA a = true ∨ (∃ l, a = .tuple l ∧ l.all plainA = true))
    (hu : VR (fun _ => none) σ a u) (h : CallsV Tryz.prog gl f va u V) : KRow Tryz.prog gl σ f args ⟨a, []⟩ V :=
  KRow.ofPG glOK hg hp (PRow.ofV glOK gl_bareM gl_has hm fun w va' hva hw hV => by
    have e : va' = va := Array.ext' (tellsVs_funs ht hva ha)
    subst e
    exact (h w hw hV).mono fun e w' ⟨h1, h2⟩ => ⟨u, h1, hu, h2⟩)

/-- A closed run that looks at memory is a contract. -/
theorem CallsV.scriptM {E : Env} (ok : EnvOK E) (hP : E.P = Tryz.prog) {σ : Nat → Value} {f : FuncId} {args : List AV} {n : Nat} {v : AV} {va : Array Value} {u : Value} {orows mrows : List OR} {krows : List KR}
    (ho : ∀ m, ∀ r ∈ orows, RowOK (E.askM 9 orows mrows (memoKH gl krows)) 9 (withM σ m) r) (hmr : ∀ m, ∀ r ∈ mrows, RowM (E.askM 9 orows mrows (memoKH gl krows)) (withM σ m) r) (hk : ∀ m, ∀ r ∈ krows, KRow Tryz.prog gl (withM σ m) r.f r.args r.img E.V)
    (run : rowRunG (E.askM 9 orows mrows (memoKH gl krows)) gl f args n v = true) (ha : ∀ m, VRs (fun _ => none) (withM σ m) args va.toList) (hu : ∀ m, VR (fun _ => none) (withM σ m) v u) (ht : tellsV v = true)
    (hV : ∀ w, E.V w → Hold E.V (fun k => k < w.heap.size) w) : CallsV Tryz.prog gl f va u E.V := by
  intro w ⟨m, hm⟩ hw
  obtain ⟨ρ, hR⟩ := hm (withM σ m) (withM_kM σ m)
  have mo : MemoOK (E.askM 9 orows mrows (memoKH gl krows)) (withM σ m) := by
    have h := MemoOK.ofK (E := E.askM 9 orows mrows (memoKH gl krows)) (gl := gl) (rows := krows) (σ := withM σ m) (by rw [show (E.askM 9 orows mrows (memoKH gl krows)).P = Tryz.prog from hP]; exact hk m)
    rw [← memoKH_eq] at h
    exact h
  have row := PRow.ofGr (E := E.askM 9 orows mrows (memoKH gl krows)) (EnvS.askM ok (ho m) (hmr m)) mo run
  rw [show (E.askM 9 orows mrows (memoKH gl krows)).P = Tryz.prog from hP] at row
  exact (row w va (hV w hw) ⟨ρ, hR⟩ (ha m)).mono fun e w' ⟨u', h1, h2, h3⟩ => ⟨by rw [h1, tellsV_fun ht h2 (hu m)], h3⟩

theorem memoKH_ok {E : Env} (hP : E.P = Tryz.prog) {σ : Nat → Value} {krows : List KR} (hk : ∀ r ∈ krows, KRow Tryz.prog gl σ r.f r.args r.img E.V) : MemoOK { E with memo := memoKH gl krows } σ := by
  have h := MemoOK.ofK (E := E) (gl := gl) (rows := krows) (σ := σ) (by rw [hP]; exact hk)
  rw [← memoKH_eq] at h
  exact h

section
variable {E E' : Env} {b : Nat → Prop} {ρ0 : Rho} {σ : Nat → Value} {cs : List Frame} {m : AM} {M : Machine} {w : World}
/-- Where no region is under way the environment may be another one. -/
theorem Live.env (h : Live E b ρ0 σ cs m M w) (hc : m.callers = []) (hn : noD m.fr.todo = true) : Live E' b ρ0 σ cs m M w := by
  obtain ⟨ρ, f, cs', pd, q, rfl, ⟨hf, hcs, hr⟩, hl⟩ := h
  obtain ⟨⟨tm, todo, inf⟩, callers, s⟩ := m
  have hc : callers = [] := hc
  subst hc
  have hn : noD todo = true := hn
  have hpd := hf.tt.noP hn
  obtain ⟨hi, tr⟩ := hf.tt.noD hn
  exact ⟨ρ, f, cs', pd, q, rfl, ⟨⟨hf.fn, hf.kind, hf.ro, hf.defers, hf.mode, .plain hpd hi tr⟩, hcs, hr⟩, hl⟩
end
/-- What lay there stays. -/
theorem Below.kept {n : Nat} {b : Nat → Prop} {w w1 w2 : World} (h : Below n w w1) (k : Kept b w1 w2) (hb : ∀ j, j < n → b j) : Below n w w2 :=
  ⟨k.os.trans h.os, k.tape.trans h.tape, k.output.trans h.output, Nat.le_trans h.size k.size, fun j hj => (k.block j (hb j hj)).trans (h.block j hj)⟩
/-- Where a call begins. -/
def startM (E : Env) (s : St) (f : FuncId) (args : List AV) : Option AM := match enterA E f args .normal with
  | some fr => some ⟨fr, [], s⟩
  | none => none
def bnd {α β : Type} (o : Option α) (f : α → Option β) : Option β := match o with
  | some a => f a
  | none => none
theorem bnd_some {α β : Type} {o : Option α} {f : α → Option β} {y : β} (h : bnd o f = some y) : ∃ x, o = some x ∧ f x = some y := by
  cases o with
  | none => cases h
  | some x => exact ⟨x, rfl, h⟩
theorem startM_some {E : Env} {s : St} {f : FuncId} {args : List AV} {m : AM} (h : startM E s f args = some m) : ∃ fr, enterA E f args .normal = some fr ∧ m = ⟨fr, [], s⟩ := by
  unfold startM at h
  split at h
  · rename_i fr hfr; cases h; exact ⟨fr, hfr, rfl⟩
  · cases h
end
end Go.Proofs.YtnnhijfbdkokkaaGreatDoor

/- WireWords answers true at every input, where the listed variables read as the program lays them: the walk. Condition: the row's own. -/
import Derived.Test.YtnnhijfbdkokkaaGreatDoorYa
namespace Go.Proofs.YtnnhijfbdkokkaaGreatDoor
open Go Go.Eng Go.ChangeShapes Go.WideShapes Go.ChangeAt Go.RowKit
set_option maxRecDepth 100000
noncomputable section

def ws8 : List (List UInt8) := [[112, 114, 101, 118, 105, 101, 119], [101, 110], [50, 48, 50, 54, 45, 49, 49, 45, 49, 54], [50, 48, 50, 54, 45, 49, 49, 45, 49, 55], [48, 48, 48, 49, 45, 48, 49, 45, 48, 49], [53], [53, 48]]
def sayP8 : List UInt8 := [112, 97, 114, 115, 101, 32, 101, 110, 32]
def sayD8 : List UInt8 := [100, 101, 115, 99, 114, 105, 98, 101, 32]
structure CtxW where
  a : List UInt8
  b : List UInt8
  n : Nat
namespace CtxW
variable (x : CtxW)
def i : Nat := x.n % 8
def j : Nat := x.n % 7
def L : List (List UInt8) := ws8 ++ [x.b]
def s0 : List UInt8 := (x.a ++ [32]) ++ x.b
def s2 : List UInt8 := ((sayP8 ++ x.a) ++ [32]) ++ x.b
def s3 : List UInt8 := ((sayD8 ++ x.a) ++ [32]) ++ x.b
def s4 : List UInt8 := Lib.join (x.L.take (x.i + 1)) [32]
def s5 : List UInt8 := Lib.join (x.L.take (x.j + 1) ++ [x.a]) [32]
def sQ (q : Nat) : List UInt8 := pick [] [x.s0, x.a, x.s2, x.s3, x.s4, x.s5] q
def zz : Nat → Value
  | 100 => strV x.a
  | 101 => strV x.b
  | 102 => .int .u8 (x.n : Nat)
  | 110 => strV x.s0
  | 111 => strV x.a
  | 112 => strV x.s2
  | 113 => strV x.s3
  | 114 => strV x.s4
  | 115 => strV x.s5
  | 120 => strV (x.a ++ [32])
  | 121 => strV (sayP8 ++ x.a)
  | 122 => strV ((sayP8 ++ x.a) ++ [32])
  | 123 => strV (sayD8 ++ x.a)
  | 124 => strV ((sayD8 ++ x.a) ++ [32])
  | 130 => .int .i64 (x.a.length : Nat)
  | 131 => .int .i64 (x.b.length : Nat)
  | 132 => .int .i64 (x.a.length + x.b.length : Nat)
  | _ => .nilIface
abbrev sg (x : CtxW) (s name : List UInt8) (fs : List (List UInt8)) (t : List UInt8) (m : Int) : Nat → Value := withM (sgD x.zz s name fs t) m
end CtxW
theorem vrs_takeW {ρ : Rho} {σ : Nat → Value} : ∀ (l : List AV) (vs : List Value) (n : Nat), VRs ρ σ l vs → VRs ρ σ (takeW n l) (vs.take n)
  | [], vs, n, h => by
    have h : vs = [] := h
    subst h
    cases n <;> rfl
  | _ :: _, vs, 0, _ => rfl
  | a :: l, vs, n + 1, ⟨v, r, e, h, hl⟩ => ⟨v, r.take n, by rw [e]; rfl, h, vrs_takeW l r n hl⟩
theorem all_takeW {p : AV → Bool} : ∀ (l : List AV) (n : Nat), l.all p = true → (takeW n l).all p = true
  | [], n, _ => by cases n <;> rfl
  | _ :: _, 0, _ => rfl
  | a :: l, n + 1, h => by
    rw [List.all_cons, Bool.and_eq_true] at h
    show (a :: takeW n l).all p = true
    rw [List.all_cons, h.1, all_takeW l n h.2]; rfl
theorem vrs_snoc {ρ : Rho} {σ : Nat → Value} {a : AV} {v : Value} (ha : VR ρ σ a v) : ∀ {l : List AV} {vs : List Value}, VRs ρ σ l vs → VRs ρ σ (l ++ [a]) (vs ++ [v])
  | [], vs, h => by
    have h : vs = [] := h
    subst h
    exact ⟨_, _, rfl, ha, rfl⟩
  | _ :: _, _, ⟨u, r, e, h, hl⟩ => ⟨u, r ++ [v], by rw [e]; rfl, h, vrs_snoc ha hl⟩
theorem jrow_gen {σ : Nat → Value} {i : Nat} {cs : List AV} {fs : List (List UInt8)} (ht : cs.all tells = true) (hv : VRs (fun _ => none) σ cs (fs.map strV)) (hi : σ i = strV (Lib.join fs [32])) (hn : fs.length ≤ 100) (hl : (Lib.join fs [32]).length ≤ 10000) : JRow Tryz.prog σ fJoin ⟨#[32]⟩ ⟨cs, .sym i⟩ := by
  have eS : Lib.join (((fs.map fun l => (⟨l.toArray⟩ : ByteArray))).map (·.data.toList)) [32] = Lib.join fs [32] := by
    rw [List.map_map, show ((fun x : ByteArray => x.data.toList) ∘ fun l : List UInt8 => (⟨l.toArray⟩ : ByteArray)) = id from rfl, List.map_id]
  refine ⟨ht, rfl, fs.map fun l => (⟨l.toArray⟩ : ByteArray), strV (Lib.join fs [32]), ?_, ⟨hi.symm, rfl⟩, ?_⟩
  · rw [List.map_map]; exact hv
  · intro bk o cp w hcells hbk hcap
    refine (Tryz.strings_Join bk o cp _ ⟨#[32]⟩ w hcells hbk (by rw [List.length_map]; omega) hcap (by show (Lib.join _ [32]).length ≤ _; rw [eS]; omega)).mono ?_
    rintro e w' ⟨rfl, hB⟩
    refine ⟨?_, hB⟩
    show Ending.returned (.string ⟨(Lib.join _ [32]).toArray⟩) = _
    rw [eS]; rfl
theorem join_len {l : List (List UInt8)} {n : Nat} (hne : l ≠ []) (h : ∀ f ∈ l, f.length ≤ n) (hl : l.length ≤ 9) (hn : n ≤ 300) : (Lib.join l [32]).length ≤ 4000 := by
  have e := List.dropLast_concat_getLast hne
  have h1 : ∀ f ∈ l.dropLast, f.length ≤ n := fun f hf => h f (List.dropLast_subset l hf)
  have h2 := h _ (List.getLast_mem hne)
  have h3 := tailS_len l.dropLast (l.getLast hne) n h1
  rw [← join_tail, e, List.length_dropLast] at h3
  have h4 : (l.length - 1) * (n + 1) ≤ 8 * 301 := Nat.mul_le_mul (by omega) (by omega)
  omega

namespace CtxW
section
variable {x : CtxW} {s name : List UInt8} {fs : List (List UInt8)} {t : List UInt8} {m : Int}
theorem cS {q : Nat} {l : List UInt8} (h : x.sg s name fs t m q = strV l) : conc (x.sg s name fs t m) (.sym q) = .str (nats l) := by
  show concS _ (x.sg s name fs t m q) = _
  rw [h]; rfl
theorem head_ok {E : Env} (ht : E.ty = E0.ty) {b : Bool} (hl : x.a.length + x.b.length < 9000000000000000000) (hb : b = decide (200 < x.a.length + x.b.length)) : ∀ r ∈ orL0 b, RowOK E 9 (x.sg s name fs t m) r := by
  intro r hr
  simp only [orL0, List.mem_cons, List.mem_nil_iff, or_false] at hr
  rcases hr with rfl | rfl | rfl | rfl
  · exact RowOK.len (typ9 ht) (x := nats x.a) (cS rfl) (by rw [nats_len]; rfl)
  · exact RowOK.len (typ9 ht) (x := nats x.b) (cS rfl) (by rw [nats_len]; rfl)
  · exact RowOK.add64 (x := ((x.a.length : Nat) : Int)) (y := ((x.b.length : Nat) : Int)) (z := ((x.a.length + x.b.length : Nat) : Int)) rfl rfl rfl (by omega) (by omega) (by omega)
  · exact RowOK.cmp .i64 (x := ((x.a.length + x.b.length : Nat) : Int)) (y := 200) rfl rfl (.inr (.inr (.inr (.inr (.inl ⟨rfl, by rw [hb, decide_eq_decide]; omega⟩)))))
theorem says_ok {E : Env} (hl : x.a.length + x.b.length ≤ 200) : ∀ r ∈ orL1 x.i x.j, RowOK E 9 (x.sg s name fs t m) r := by
  have cat : ∀ {u v w : AV} {p q : List UInt8}, conc (x.sg s name fs t m) u = .str (nats p) → conc (x.sg s name fs t m) v = .str (nats q) → conc (x.sg s name fs t m) w = .str (nats (p ++ q)) → (p ++ q).length ≤ 1000 → RowOK E 9 (x.sg s name fs t m) ⟨0, [u, v], w⟩ := fun h1 h2 h3 h4 => RowOK.cat h1 h2 h3 (nats_append _ _).symm (by rw [nats_len]; omega)
  have lp : sayP8.length = 9 := rfl
  have ld : sayD8.length = 9 := rfl
  intro r hr
  simp only [orL1, List.mem_cons, List.mem_nil_iff, or_false] at hr
  rcases hr with rfl | rfl | rfl | rfl | rfl | rfl | rfl | rfl | rfl | rfl
  · exact RowOK.rem .u8 (x := ((x.n : Nat) : Int)) (y := ((8 : Nat) : Int)) rfl rfl rfl (by decide) (tmodN _ _)
  · exact RowOK.rem .u8 (x := ((x.n : Nat) : Int)) (y := ((7 : Nat) : Int)) rfl rfl rfl (by decide) (tmodN _ _)
  · exact cat (p := x.a) (q := [32]) (cS rfl) rfl (cS rfl) (by simp only [List.length_append, List.length_singleton]; omega)
  · exact cat (p := x.a ++ [32]) (q := x.b) (cS rfl) (cS rfl) (cS rfl) (by simp only [List.length_append, List.length_singleton]; omega)
  · exact cat (p := sayP8) (q := x.a) rfl (cS rfl) (cS rfl) (by simp only [List.length_append, lp]; omega)
  · exact cat (p := sayP8 ++ x.a) (q := [32]) (cS rfl) rfl (cS rfl) (by simp only [List.length_append, List.length_singleton, lp]; omega)
  · exact cat (p := (sayP8 ++ x.a) ++ [32]) (q := x.b) (cS rfl) (cS rfl) (cS rfl) (by simp only [List.length_append, List.length_singleton, lp]; omega)
  · exact cat (p := sayD8) (q := x.a) rfl (cS rfl) (cS rfl) (by simp only [List.length_append, ld]; omega)
  · exact cat (p := sayD8 ++ x.a) (q := [32]) (cS rfl) rfl (cS rfl) (by simp only [List.length_append, List.length_singleton, ld]; omega)
  · exact cat (p := (sayD8 ++ x.a) ++ [32]) (q := x.b) (cS rfl) (cS rfl) (cS rfl) (by simp only [List.length_append, List.length_singleton, ld]; omega)
theorem lW_ok : VRs (fun _ => none) (x.sg s name fs t m) lW (x.L.map strV) :=
  ⟨_, _, rfl, ⟨_, rfl, rfl⟩, _, _, rfl, ⟨_, rfl, rfl⟩, _, _, rfl, ⟨_, rfl, rfl⟩, _, _, rfl, ⟨_, rfl, rfl⟩, _, _, rfl, ⟨_, rfl, rfl⟩, _, _, rfl, ⟨_, rfl, rfl⟩, _, _, rfl, ⟨_, rfl, rfl⟩, _, _, rfl, ⟨rfl, rfl⟩, rfl⟩
theorem L_le (hl : x.a.length + x.b.length ≤ 200) : ∀ f ∈ x.L, f.length ≤ 300 := by
  intro f hf
  rcases List.mem_append.1 hf with hf | hf
  · have : ∀ f ∈ ws8, f.length ≤ 300 := by decide
    exact this f hf
  · simp only [List.mem_singleton] at hf
    subst hf; omega
theorem L_len : x.L.length = 8 := rfl
theorem s4_le (hl : x.a.length + x.b.length ≤ 200) : x.s4.length ≤ 4000 :=
  join_len (n := 300) (fun h => by have := congrArg List.length h; rw [List.length_take, L_len, List.length_nil] at this; omega) (fun f hf => L_le hl f (List.mem_of_mem_take hf)) (by rw [List.length_take]; have := L_len (x := x); omega) (Nat.le_refl _)
theorem s5_le (hl : x.a.length + x.b.length ≤ 200) : x.s5.length ≤ 4000 :=
  join_len (n := 300) (by simp) (fun f hf => by
    rcases List.mem_append.1 hf with hf | hf
    · exact L_le hl f (List.mem_of_mem_take hf)
    · simp only [List.mem_singleton] at hf
      subst hf; omega) (by rw [List.length_append, List.length_take, List.length_singleton]; have := L_len (x := x); omega) (Nat.le_refl _)
theorem jr_ok (hl : x.a.length + x.b.length ≤ 200) : ∀ r ∈ jrW x.i x.j, JRow Tryz.prog (x.sg s name fs t m) fJoin ⟨#[32]⟩ r := by
  intro r hr
  simp only [jrW, List.mem_cons, List.mem_nil_iff, or_false] at hr
  have h8 := L_len (x := x)
  rcases hr with rfl | rfl
  · refine jrow_gen (fs := x.L.take (x.i + 1)) (all_takeW _ _ rfl) ?_ rfl (by rw [List.length_take]; omega) (by have := s4_le hl; show x.s4.length ≤ _; omega)
    rw [List.map_take]; exact vrs_takeW _ _ _ lW_ok
  · refine jrow_gen (fs := x.L.take (x.j + 1) ++ [x.a]) (by rw [List.all_append, all_takeW _ _ rfl]; rfl) ?_ rfl (by rw [List.length_append, List.length_take, List.length_singleton]; omega) (by have := s5_le hl; show x.s5.length ≤ _; omega)
    rw [List.map_append, List.map_take]; exact vrs_snoc (a := .sym 100) (v := strV x.a) ⟨rfl, rfl⟩ (vrs_takeW _ _ _ lW_ok)
theorem sQ_le (hl : x.a.length + x.b.length ≤ 200) {q : Nat} (hq : q < 6) : (x.sQ q).length ≤ 8192 := by
  have lp : sayP8.length = 9 := rfl
  have ld : sayD8.length = 9 := rfl
  match q, hq with
  | 0, _ => show x.s0.length ≤ _; unfold s0; simp only [List.length_append, List.length_singleton]; omega
  | 1, _ => show x.a.length ≤ _; omega
  | 2, _ => show x.s2.length ≤ _; unfold s2; simp only [List.length_append, List.length_singleton, lp]; omega
  | 3, _ => show x.s3.length ≤ _; unfold s3; simp only [List.length_append, List.length_singleton, ld]; omega
  | 4, _ => have := s4_le hl; show x.s4.length ≤ _; omega
  | 5, _ => have := s5_le hl; show x.s5.length ≤ _; omega
end
end CtxW

/-! ### The loop -/
structure AtW (w : World) (ρ0 : Rho) (σ : Nat → Value) (cs : List Frame) (mm : AM) (M : Machine) where
  b : Nat → Prop
  w1 : World
  bl : ∀ j, j < w.heap.size → b j
  below : Below w.heap.size w w1
  hold : Hold errV b w1
  live : ∀ E : Env, Live E b ρ0 σ cs mm M w1
def OutW (w : World) (cs : List Frame) (M : Machine) : Prop := Wins Tryz.prog fWireWords cs (fun e w' => e = .returned (.bool true) ∧ Below w.heap.size w w') M
section
variable {x : CtxW} {m : Int} {w : World} {ρ0 : Rho} {cs : List Frame}
theorem zzQ {s name : List UInt8} {fs : List (List UInt8)} {t : List UInt8} : ∀ r, r < 6 → x.sg s name fs t m (Nat.add 110 r) = strV (x.sQ r)
  | 0, _ => rfl
  | 1, _ => rfl
  | 2, _ => rfl
  | 3, _ => rfl
  | 4, _ => rfl
  | 5, _ => rfl
theorem the_one {σ σ' : Nat → Value} {i k : Nat} {v : Value} (h1 : σ k = v) (h2 : σ' i = v) : denS σ (.sym k) = some (σ' i) := by
  show some (σ k) = some (σ' i)
  rw [h1, h2]
theorem thW_ok {q : Nat} (hq : q < 5) {name : List UInt8} {fs : List (List UInt8)} {t : List UInt8} {name' : List UInt8} {fs' : List (List UInt8)} {t' : List UInt8} : TheOK (x.sg (x.sQ q) name fs t m) (x.sg (x.sQ (q + 1)) name' fs' t' m) (thW q) := by
  have z1 := zzQ (x := x) (m := m) (s := x.sQ q) (name := name) (fs := fs) (t := t)
  have z2 := zzQ (x := x) (m := m) (s := x.sQ (q + 1)) (name := name') (fs := fs') (t := t')
  have e1 : x.sg (x.sQ q) name fs t m 0 = strV (x.sQ q) := rfl
  have e2 : x.sg (x.sQ (q + 1)) name' fs' t' m 0 = strV (x.sQ (q + 1)) := rfl
  have one : ∀ r, r < 6 → denS (x.sg (x.sQ q) name fs t m) (bif_ (Nat.beq r q) (Nat.add 110 r, AV.sym 0) (bif_ (Nat.beq r (Nat.succ q)) (0, .sym (Nat.add 110 r)) (Nat.add 110 r, .sym (Nat.add 110 r)))).2 = some (x.sg (x.sQ (q + 1)) name' fs' t' m (bif_ (Nat.beq r q) (Nat.add 110 r, AV.sym 0) (bif_ (Nat.beq r (Nat.succ q)) (0, .sym (Nat.add 110 r)) (Nat.add 110 r, .sym (Nat.add 110 r)))).1) := by
    intro r hr
    rw [bif_eq]
    split
    · rename_i h
      have h := Nat.eq_of_beq_eq_true h
      subst h
      exact the_one e1 (z2 r hr)
    · rw [bif_eq]
      split
      · rename_i h
        have h := Nat.eq_of_beq_eq_true h
        subst h
        exact the_one (z1 _ hr) e2
      · exact the_one (z1 r hr) (z2 r hr)
  exact ⟨one 0 (by omega), one 1 (by omega), one 2 (by omega), one 3 (by omega), one 4 (by omega), one 5 (by omega), trivial⟩
theorem it_rows {s name : List UInt8} {fs : List (List UInt8)} {t : List UInt8} {im : Nat} (hd : KRow Tryz.prog gl (x.sg s name fs t m) fDecode [.sym 0] (pick formI imgs5 im) errV ∧ KRow Tryz.prog gl (x.sg s name fs t m) fDecodeL [.sym 0] (pick formI imgs5 im) errV) : EnvS (EIt im) (x.sg s name fs t m) ∧ MemoOK (EIt im) (x.sg s name fs t m) := by
  refine ⟨EnvS.askM envEe (fun r hr => eqO_ok r hr) (fun r hr => by cases hr), memoKH_ok (E := EIt im) rfl fun r hr => ?_⟩
  simp only [decK, List.mem_cons, List.mem_nil_iff, or_false] at hr
  rcases hr with rfl | rfl
  · exact hd.1
  · exact hd.2
theorem words_loop (hl : x.a.length + x.b.length ≤ 200) : ∀ d q, 5 - q = d → q ≤ 5 → ∀ (name : List UInt8) (fs : List (List UInt8)) (t : List UInt8) (im : Nat), im < 5 → (KRow Tryz.prog gl (x.sg (x.sQ q) name fs t m) fDecode [.sym 0] (pick formI imgs5 im) errV ∧ KRow Tryz.prog gl (x.sg (x.sQ q) name fs t m) fDecodeL [.sym 0] (pick formI imgs5 im) errV) →
    ∀ M, AtW w ρ0 (x.sg (x.sQ q) name fs t m) cs (pW q) M → OutW w cs M := by
  intro d
  induction d with
  | zero =>
    intro q hd hq name fs t im him hdec M h
    obtain rfl : q = 5 := by omega
    obtain ⟨ok, mo⟩ := it_rows (m := m) hdec
    refine ((h.live (EIt im)).wins ok mo h.hold (allB_spec runW_end im (mem5 him))).mono ?_
    rintro e w' ⟨u, ρ', rfl, hu, hK⟩
    have hu : u = .bool true := hu
    subst hu
    exact ⟨rfl, Below.kept h.below hK h.bl⟩
  | succ d ih =>
    intro q hd hq name fs t im him hdec M h
    obtain ⟨ok, mo⟩ := it_rows (m := m) hdec
    obtain ⟨name2, fs2, t2, im2, him2, hdec2⟩ := dec_both (x.sQ (q + 1)) (CtxW.sQ_le hl (by omega))
    obtain ⟨M', w', b', g1, g2, g3, g4⟩ := (h.live (EIt im)).toPat (E' := E0) (σ' := x.sg (x.sQ (q + 1)) name2 fs2 t2 m) ok mo h.hold (runI_s (by omega) him) glOK gl_bareM rfl rfl (thW_ok (by omega))
    exact Wins.steps g1 (ih (q + 1) (by omega) (by omega) name2 fs2 t2 im2 him2 (hdec2 x.zz m) M' ⟨b', w', fun j hj => g3 _ (h.bl j hj), Below.kept h.below g2 h.bl, (h.hold.kept g2).wide g3, fun E => Live.env g4 rfl tdW_noD⟩)
end
end

/-- Whatever the texts, WireWords hands back true. -/
theorem words_calls {W : World} (hL : laidMet Tryz.prog Tryz.laid W) (hS : W.ShapedOpen Tryz.prog) {n : Nat} {a b : ByteArray} (ha : a.size ≤ 4000000000000000000) (hb : b.size ≤ 4000000000000000000) :
    Calls Tryz.prog fWireWords #[.string a, .string b, .int .u8 n] W (fun e W' => e = .returned (.bool true) ∧ Below W.heap.size W W') := by
  obtain ⟨m, hm⟩ := vars_laid hL hS
  have hV := errV_laid hL hS
  let x : CtxW := ⟨a.data.toList, b.data.toList, n⟩
  have la : x.a.length ≤ 4000000000000000000 := by show a.data.toList.length ≤ _; rw [Array.length_toList]; exact ha
  have lb : x.b.length ≤ 4000000000000000000 := by show b.data.toList.length ≤ _; rw [Array.length_toList]; exact hb
  obtain ⟨ρ, hR⟩ := hm (x.sg [] [] [] [] m) (withM_kM _ _)
  have hva : VRs (fun _ => none) (x.sg [] [] [] [] m) argW (#[.string a, .string b, .int .u8 n] : Array Value).toList := ⟨_, _, rfl, ⟨(strV_eta a).symm, rfl⟩, _, _, rfl, ⟨(strV_eta b).symm, rfl⟩, _, _, rfl, ⟨rfl, rfl⟩, rfl⟩
  by_cases hl : x.a.length + x.b.length ≤ 200
  case neg =>
    have row : PRow Tryz.prog gl (x.sg [] [] [] [] m) fWireWords argW (.bool true) errV :=
      PRow.ofGr (E := Ee.askM 9 (orL0 true) [] (memoOr (memoI gl tabs19) (memoKH gl []))) (EnvS.askM envEe (CtxW.head_ok (by rfl) (by omega) (decide_eq_true (by omega)).symm) (fun r hr => by cases hr)) (MemoOK.or (E := Ee.askM 9 (orL0 true) [] (memoOr (memoI gl tabs19) (memoKH gl []))) (tabs19_ok (E := Ee.askM 9 (orL0 true) [] (memoOr (memoI gl tabs19) (memoKH gl []))) rfl _) (memoKH_ok (E := Ee.askM 9 (orL0 true) [] (memoOr (memoI gl tabs19) (memoKH gl []))) rfl (fun r hr => by cases hr))) runW_long
    exact (row W _ (errV_hold W hV) ⟨ρ, hR⟩ hva).mono fun e W' ⟨u, he, hu, hB⟩ => ⟨by rw [he]; exact congrArg Ending.returned hu, hB⟩
  intro cs
  have run := runW_s (i := x.i) (j := x.j) (Nat.mod_lt _ (by omega)) (Nat.mod_lt _ (by omega))
  unfold tpW at run
  obtain ⟨m0, hm0, hm1⟩ := bnd_some run
  obtain ⟨fr, hfr, rfl⟩ := startM_some hm0
  have ok : EnvS (EW0 x.i x.j) (x.sg [] [] [] [] m) := EnvS.askM envEe (fun r hr => by
    rcases List.mem_append.1 hr with hr | hr
    · exact CtxW.head_ok (by rfl) (by omega) (decide_eq_false (by omega)).symm r hr
    · exact CtxW.says_ok hl r hr) (fun r hr => by cases hr)
  have mo : MemoOK (EW0 x.i x.j) (x.sg [] [] [] [] m) := MemoOK.or (E := EW0 x.i x.j) (tabs19_ok (E := EW0 x.i x.j) rfl _) (MemoOK.or (E := EW0 x.i x.j) (memoJ_ok (E := EW0 x.i x.j) (sep := ⟨#[32]⟩) (CtxW.jr_ok hl)) (memoKH_ok (E := EW0 x.i x.j) rfl (fun r hr => by cases hr)))
  have hva0 : VRs ρ (x.sg [] [] [] [] m) argW (#[.string a, .string b, .int .u8 n] : Array Value).toList := ⟨_, _, rfl, ⟨(strV_eta a).symm, rfl⟩, _, _, rfl, ⟨(strV_eta b).symm, rfl⟩, _, _, rfl, ⟨rfl, rfl⟩, rfl⟩
  have hL0 := Live.start (E := EW0 x.i x.j) (cs := cs) ok.ok hR hva0 hfr
  obtain ⟨name2, fs2, t2, im2, him2, hdec2⟩ := dec_both (x.sQ 0) (CtxW.sQ_le hl (by omega))
  obtain ⟨M', w', b', g1, g2, g3, g4⟩ := hL0.toPat (E' := E0) (σ' := x.sg (x.sQ 0) name2 fs2 t2 m) ok mo (errV_hold W hV) hm1 glOK gl_bareM rfl rfl ⟨rfl, rfl, rfl, rfl, rfl, rfl, trivial⟩
  have out : OutW W cs M' := words_loop hl 5 0 rfl (by omega) name2 fs2 t2 im2 him2 (hdec2 x.zz m) M' ⟨b', w', fun j hj => g3 _ hj, Below.kept (Below.refl _ _) g2 (fun _ h => h), ((errV_hold W hV).kept g2).wide g3, fun E => Live.env g4 rfl tdW_noD⟩
  exact Wins.steps g1 out

theorem words_lifted (os : Os) (started : os.Started) (H : Type) (enc : TypeId × Value → H) :
    ReturnsInHanded {} Tryz.checked os 10 .any (fun w args => (Rows.wireWordsSpec.pre enc Tryz.prog Tryz.f10 [] false w args ∧ laidMetH Tryz.prog Tryz.laid w) ∧ sizedMet enc Tryz.prog Tryz.f10 (OpenSpec.ofChange Rows.wireWordsSpec) false w args)
      (Rows.wireWordsSpec.post enc Tryz.prog Tryz.f10 false true false false) := by
  refine handed_sized (C := Tryz.checked) (X := fun w _ => laidMetH Tryz.prog Tryz.laid w) (fun _ _ _ hh h => h.of_heap hh) Tryz.own started (by kernel_rfl) Tryz.func10
    (ChangeSpec.witness_shaped (enc := enc) (C := Tryz.checked) (os := os) (X := fun w _ => laidMetH Tryz.prog Tryz.laid w) false (World.laidAll Tryz.prog os Tryz.laid) #[.string ⟨#[]⟩, .string ⟨#[]⟩, .int .u8 0] 8 (World.laidAll_os _ _ _)
      (World.shaped_of_ZipB (by kernel_rfl) (by kernel_rfl)) (by kernel_rfl) (by kernel_rfl) (by kernel_rfl)
      (by rw [MakeChecks.laidMetH_plain _ _ _ (by kernel_rfl)]; exact laidMet_laidAll _ (by kernel_rfl) (by kernel_rfl))) ?_
  intro W base args ds gs before hS hval0 hW hL hZ
  have hval : ∀ (j : Nat) t v, Tryz.f10.params[j]? = some t → args[j]? = some v → Value.okWide Tryz.prog W .any base t v := hval0
  have hW' := hW
  obtain ⟨p, q, hA0, hV, rfl, _, _⟩ := hW
  have hA : DataW.TrodAll enc Tryz.prog W 0 (fun _ => true) true Tryz.f10.params.toList args.toList ds p := hA0
  rw [Tryz.params10] at hA hval
  rw [MakeChecks.laidMetH_plain _ _ _ (by kernel_rfl)] at hL
  obtain ⟨v0, v1, v2, d0, d1, d2, p0, p1, p2, rfl, rfl, rfl, h0, h1, h2⟩ := trodAll_three hA
  obtain ⟨rfl, rfl⟩ := trodVars_none hV
  obtain ⟨a, rfl, rfl, rfl, w0⟩ := ChangeMaps.open_string Tryz.underlying9 (hval 0 9 v0 rfl rfl) h0
  obtain ⟨b, rfl, rfl, rfl, w1⟩ := ChangeMaps.open_string Tryz.underlying9 (hval 1 9 v1 rfl rfl) h1
  obtain ⟨n, rfl, rfl, rfl, w2⟩ := open_int Tryz.underlying5 (hval 2 5 v2 rfl rfl) h2
  have hsz : a.size ≤ 4000000000000000000 ∧ b.size ≤ 4000000000000000000 := by
    obtain ⟨W0, _, ds, gs, bf, hWh, hwt⟩ := hZ
    obtain ⟨p', q', hA1, hV1, _⟩ := hWh
    have hA1 : DataW.TrodAll enc Tryz.prog W0 0 (fun _ => true) true Tryz.f10.params.toList _ ds p' := hA1
    rw [Tryz.params10] at hA1
    obtain ⟨v0, v1, v2, d0, d1, d2, p0, p1, p2, ea, rfl, _, h0, h1, h2⟩ := trodAll_three hA1
    obtain ⟨rfl, rfl⟩ := trodVars_none hV1
    have ea0 : v0 = .string a := (congrArg (fun a : Array Value => a[0]!) ea).symm
    have ea1 : v1 = .string b := (congrArg (fun a : Array Value => a[1]!) ea).symm
    subst ea0
    subst ea1
    obtain ⟨n0, h0⟩ := h0
    obtain ⟨n1, h1⟩ := h1
    obtain ⟨a', ea', _, ed0, _⟩ := leaf_str (W' := W0) (b' := 0) (sp' := fun _ => true) (hd' := true) Tryz.underlying9 h0
    obtain ⟨b', eb', _, ed1, _⟩ := leaf_str (W' := W0) (b' := 0) (sp' := fun _ => true) (hd' := true) Tryz.underlying9 h1
    have ea' : a = a' := by simpa [Value.cells] using ea'
    have eb' : b = b' := by simpa [Value.cells] using eb'
    subst ea'
    subst eb'
    cases ed0
    cases ed1
    rw [Tryz.params10] at hwt
    have hwt : (DataW.weightsEach Tryz.prog [9, 9, 5] [.lit (.string a.data.toList), .lit (.string b.data.toList), _]).all (· ≤ reachBytes) = true := hwt
    simp only [DataW.weightsEach, DataW.weights, List.all_append, List.all_cons, List.all_nil, Bool.and_true, Bool.and_eq_true, decide_eq_true_eq] at hwt
    have hr : reachBytes = 140737488351232 := rfl
    have la : a.size = a.data.toList.length := by rw [Array.length_toList]; rfl
    have lb : b.size = b.data.toList.length := by rw [Array.length_toList]; rfl
    omega
  have e1 : Rows.wireWordsSpec.fn H ([.lit (.string a.data.toList), .lit (.string b.data.toList), .lit (.int .u8 n)] ++ []) = { results := [.lit (.bool true)], args := [.lit (.string a.data.toList), .lit (.string b.data.toList), .lit (.int .u8 n)] } := by simp [Rows.wireWordsSpec]
  obtain ⟨n, rfl, _⟩ := nat_of_wf (.inl rfl) w2
  refine (words_calls hL hS hsz.1 hsz.2).mono fun e W' ⟨he, hB⟩ => ?_
  subst he
  refine ⟨_, rfl, _, _, _, [], [], [], hW', ?_, ?_, ?_, hB.frame _, fun h => by cases h⟩
  · rw [e1]; exact trodAll_mk1 (shut_bool Tryz.underlying4 true)
  · rw [e1]; exact trodAll_mk3 (ChangeMaps.shut_string Tryz.underlying9 w0) (ChangeMaps.shut_string Tryz.underlying9 w1) (shut_int Tryz.underlying5 w2)
  · rw [e1]; rfl
end Go.Proofs.YtnnhijfbdkokkaaGreatDoor

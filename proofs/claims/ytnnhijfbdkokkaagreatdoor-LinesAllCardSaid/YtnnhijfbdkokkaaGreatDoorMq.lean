/- lines.All: a line a day. LinesAll: closed runs, one for each length; the known call of lines.All. LinesAll: the walk. No condition. -/
import Derived.Test.YtnnhijfbdkokkaaGreatDoorMo
import Derived.WalkKit
import Derived.WalkSpells
import Derived.BigCall
import Derived.BigGuard
import Derived.Test.YtnnhijfbdkokkaaGreatDoorMv
/-! lines.All: a line a day. -/
namespace Go.Proofs.YtnnhijfbdkokkaaGreatDoor
open Go.Shelf Go.RowKit
noncomputable section

theorem b_write (B b : Nat) (bs : List Value) (s : ByteArray) (w : World) (h : Lib.IsBuilder 93 5 B b bs w) (hlen : bs.length + s.size ≤ 140737488355328) (hBw : B ≤ w.heap.size) :
    Calls Tryz.prog 48 #[.pointer (some ⟨b, 0, none⟩), .string s] w fun e w' => e = .returned (.tuple #[.int .i64 s.size, .nilIface]) ∧ (Lib.BuilderAt 93 5 B b (.pointer (some ⟨b, 0, none⟩)) (bs ++ Lib.strCells s) w' ∧ Below B w w') :=
  Any.Builder_WriteString (ρ := Tryz.lays156_ren) { Tryz.lays156 with } Tryz.Builder_Extra_156 B b bs s w h hlen hBw
theorem b_string (B b : Nat) (l : List UInt8) (w : World) (h : Lib.IsBuilder 93 5 B b (Lib.byteCells l) w) (hBw : B ≤ w.heap.size) :
    Calls Tryz.prog 49 #[.pointer (some ⟨b, 0, none⟩)] w fun e w' => e = .returned (.string ⟨l.toArray⟩) ∧ Below B w w' :=
  Any.Builder_String_any (ρ := Tryz.lays156_ren) { Tryz.lays156 with } Tryz.Builder_Extra_156 B b l w h hBw

/-- A line each. -/
def allL (k : Nat) : List Int → List UInt8
  | [] => []
  | d :: l => lineI k d ++ (10 :: allL k l)
theorem allL_append (k : Nat) : ∀ a b : List Int, allL k (a ++ b) = allL k a ++ allL k b
  | [], _ => rfl
  | d :: a, b => by
    show lineI k d ++ (10 :: allL k (a ++ b)) = (lineI k d ++ (10 :: allL k a)) ++ allL k b
    rw [allL_append k a b]; simp
theorem allL_succ (k : Nat) (l : List Int) (j : Nat) (d : Int) (h : l[j]? = some d) : allL k (l.take (j + 1)) = allL k (l.take j) ++ (lineI k d ++ [10]) := by
  rw [List.take_add_one, h, allL_append]; rfl
theorem allL_le (k : Nat) (l : List Int) (j : Nat) : (allL k (l.take j)).length ≤ (allL k l).length := by
  have h := allL_append k (l.take j) (l.drop j)
  rw [List.take_append_drop] at h
  rw [h, List.length_append]; omega
theorem bat_below {T e : TypeId} {B b : Nat} {p : Value} {bs : List Value} {W W' : World} (h : Lib.BuilderAt T e B b p bs W) (hb : Below W.heap.size W W') : Lib.BuilderAt T e B b p bs W' := by
  have hlt := h.lt
  obtain ⟨hB, v, hv, hown, hne⟩ := h
  exact ⟨hB, v, (hb.block b hlt).trans hv, hown.kept (row := none) ⟨hb.os, hb.tape, hb.output, hb.size, fun k hk _ => hb.block k hk⟩ (Classical.em _), hne⟩
theorem isb_below {T e : TypeId} {B b : Nat} {bs : List Value} {W W' : World} (h : Lib.IsBuilder T e B b bs W) (hb : Below W.heap.size W W') : Lib.IsBuilder T e B b bs W' :=
  h.elim (fun x => .inl (bat_below x hb)) (fun x => .inr (bat_below x hb))
theorem hid' {p : Prop} (h : p) : Hid p := h

set_option maxHeartbeats 4000000 in
set_option maxRecDepth 100000 in
theorem all_calls {k : Nat} {ρt : Go.Eng.Rho} (hk : k < 4) {p : Value} (hp : PtrX k ρt p) (N o c : Nat) (l : List Int) (w : World) (hw : Go.Eng.Vars gl w) (ht : tabW k ρt w)
    (hcells : ∀ (j : Nat) d, l[j]? = some d → w.cell? ⟨N, o + j, none⟩ = some (.int .i64 d)) (hN : N < w.heap.size) (hl : l.length ≤ 1000) (hlen : (allL k l).length ≤ 140737488355328) :
    Calls Tryz.prog fLAll #[p, .slice (some ⟨N, o, none⟩) l.length c] w fun e w' => e = .returned (.string ⟨(allL k l).toArray⟩) ∧ Below w.heap.size w w' := by
  have HC := hid' hcells
  clear hcells
  have HT : Hid (∀ (d : Int) (w1 : World), Below w.heap.size w w1 → Calls Tryz.prog fLText #[p, .int .i64 d] w1 (fun e w' => e = .returned (.string ⟨(lineI k d).toArray⟩) ∧ Below w1.heap.size w1 w')) := hid' fun d w1 hB => by
    have h1 : Go.Eng.Vars gl w1 := Vars.below hw hB
    exact c_ltextI hk hp d w1 h1 ((tabW_all k ρt w ht).keep _ _ ht ⟨hB.os, hB.tape, hB.output, hB.size, hB.block⟩)
  clear hw ht hp
  have t93 := Tryz.underlying93; have a93 := Tryz.isAgg93; have z93 := Tryz.sizeOf93; have v93 := Tryz.zeroValue93; have u93 := run_underlying Tryz.underlying93
  have t26 := Tryz.underlying26; have a26 := Tryz.isAgg26; have z26 := Tryz.sizeOf26; have v26 := Tryz.zeroValue26; have u26 := run_underlying Tryz.underlying26
  have t28 := Tryz.underlying28; have a28 := Tryz.isAgg28; have z28 := Tryz.sizeOf28; have v28 := Tryz.zeroValue28; have u28 := run_underlying Tryz.underlying28
  have t3 := Tryz.underlying3; have a3 := Tryz.isAgg3; have z3 := Tryz.sizeOf3; have v3 := Tryz.zeroValue3; have u3 := run_underlying Tryz.underlying3
  have t9 := Tryz.underlying9; have a9 := Tryz.isAgg9; have z9 := Tryz.sizeOf9; have v9 := Tryz.zeroValue9; have u9 := run_underlying Tryz.underlying9
  have e18 : ∀ args w, (callFunc 18 args).run Tryz.prog w = .ok (.enter 18 args) w := enters_of Tryz.func18 (by kernel_rfl) rfl
  have e48 : ∀ args w, (callFunc 48 args).run Tryz.prog w = .ok (.enter 48 args) w := enters_of Tryz.func48 (by kernel_rfl) rfl
  have e49 : ∀ args w, (callFunc 49 args).run Tryz.prog w = .ok (.enter 49 args) w := enters_of Tryz.func49 (by kernel_rfl) rfl
  go_enter Tryz.func17, Tryz.ntmps17
  go_wp2_with fail
  go_loopw [10] (fun i wr => ∃ k' : Nat, k' ≤ l.length ∧ i = .int .i64 k' ∧ Hid (Lib.IsBuilder 93 5 w.heap.size w.heap.size (Lib.byteCells (allL k (l.take k'))) wr) ∧ Hid (Below w.heap.size w wr)) (fun i _ => l.length - (intOf i).toNat)
  case atStart =>
    refine ⟨0, Nat.zero_le _, rfl, hid' (.inl ?_), hid' ((Below.refl w.heap.size w).alloc (Nat.le_refl _) _)⟩
    exact ⟨Nat.le_refl _, _, heap_alloc_new w _, World.ownsRow_nil _ _ _ _, by simp [Value.ownBlock]⟩
  case round =>
    obtain ⟨k', hk', rfl, HB, HW⟩ := hrel
    by_cases hkr : k' < l.length
    · obtain ⟨y, hy⟩ : ∃ y, l[k']? = some y := ⟨l[k'], List.getElem?_eq_getElem hkr⟩
      have hcy : wr.cell? ⟨N, o + k', none⟩ = some (.int .i64 y) := by
        rw [HW.out.cell (p := ⟨N, o + k', none⟩) hN]
        exact HC.out k' y hy
      have hBw : w.heap.size ≤ wr.heap.size := HW.out.size
      obtain ⟨S, hS⟩ : ∃ S : ByteArray, S = ⟨(lineI k y ++ [10]).toArray⟩ := ⟨_, rfl⟩
      have hsz : S.size = (lineI k y ++ [10]).length := by rw [Lib.size_eq, hS]
      have hnext : Lib.byteCells (allL k (l.take k')) ++ Lib.strCells S = Lib.byteCells (allL k (l.take (k' + 1))) := by
        rw [allL_succ k l k' y hy, Lib.strCells_eq, ← Lib.byteCells_append, hS]
      have hcat : (({ data := (lineI k y).toArray } : ByteArray) ++ ({ data := #[10] } : ByteArray)) = S := by
        rw [hS]
        apply ByteArray.ext
        rw [ByteArray.data_append]; simp
      have Hcat := hid' hcat
      clear hcat hS
      have hl1 := Nat.le_trans (allL_le k l (k' + 1)) hlen
      rw [allL_succ k l k' y hy, List.length_append] at hl1
      have Hn := hid' hnext
      have hlen1 : (Lib.byteCells (allL k (l.take k'))).length + S.size ≤ 140737488355328 := by rw [Lib.byteCells_length, hsz]; exact hl1
      have Hlen1 := hid' hlen1
      clear hnext hy hlen1 hsz
      go_wp2_with fail
      refine (HT.out y wr HW.out).mono ?_
      rintro e w2 ⟨rfl, hb2⟩
      have H2 := isb_below HB.out hb2
      have hBw2 : w.heap.size ≤ w2.heap.size := Nat.le_trans hBw hb2.size
      have Hb2 := hid' (HW.out.trans (hb2.mono hBw))
      clear hb2
      have hly : ¬ 9223372036854775807 < (lineI k y).length + 1 := by
        rw [List.length_append, List.length_singleton] at hl1; omega
      go_wp2_with fail
      rw [Hcat.out]
      refine (b_write w.heap.size w.heap.size _ S w2 H2 Hlen1.out hBw2).mono ?_
      rintro e w3 ⟨rfl, h3, hb3⟩
      rw [Hn.out] at h3
      have H3 := hid' (Or.inr h3 : Lib.IsBuilder 93 5 w.heap.size w.heap.size _ w3)
      have Hb3 := hid' (Hb2.out.trans hb3)
      clear h3 hb3
      go_wp2
      exact ⟨⟨k' + 1, by omega, by go_num, H3, Hb3⟩, by simp [intOf]; omega⟩
    · have hke : k' = l.length := by omega
      subst hke
      have hB' := HB.out
      rw [List.take_length] at hB'
      have hBw : w.heap.size ≤ wr.heap.size := HW.out.size
      go_wp2_with fail
      refine (b_string w.heap.size w.heap.size _ wr hB' hBw).mono ?_
      rintro e w5 ⟨rfl, hb5⟩
      have Hb5 := hid' (HW.out.trans hb5)
      clear hb5 hB'
      go_wp2
      go_ret
      exact ⟨rfl, Hb5.out⟩
end
end Go.Proofs.YtnnhijfbdkokkaaGreatDoor

/-! LinesAll: closed runs, one for each length; the known call of lines.All. -/
namespace Go.Proofs.YtnnhijfbdkokkaaGreatDoor
open Go Go.Eng Go.ChangeShapes Go.WideShapes Go.ChangeAt Go.RowKit
noncomputable section
set_option maxRecDepth 100000

/-! ### lines.All as a known call -/
def memoA (f0 : FuncId) (rows : List JR) (f : FuncId) (args : List AV) (s : St) : Option (AV × St) :=
  match args with
  | [.sym p, .slice i o n _ z] => match Nat.beq f f0 && Nat.beq p 50 && Nat.beq z 1 && Nat.blt 0 n && hasG gl s with
    | true => match s.get i with
      | some (.cells cs _ _) => match sub cs o n with
        | some l => match findJ l rows with
          | some v => some (v, s)
          | none => none
        | none => none
      | _ => none
    | false => none
  | _ => none

theorem memoA_ok {E : Env} (hP : E.P = Tryz.prog) {k : Nat} {ρt : Rho} (hk : k < 4) {p : Value} (hp : PtrX k ρt p) (hV : ∀ w, E.V w → tabW k ρt w) {σ : Nat → Value} {m : Int} (hm : σ kM = .int .i64 m) (h50 : σ 50 = p) {rows : List JR}
    (h : ∀ r ∈ rows, r.cs.all tells = true ∧ plainA r.v = true ∧ ∃ ds : List Int, VRs (fun _ => none) σ r.cs (ds.map (Value.int .i64)) ∧ VR (fun _ => none) σ r.v (strV (allL k ds)) ∧ ds.length ≤ 1000 ∧ (allL k ds).length ≤ 140737488355328) :
    MemoOK { E with memo := memoA fLAll rows } σ := by
  intro f args s v s' hmm B ρ w va hw hR hva
  replace hmm : memoA fLAll rows f args s = some (v, s') := hmm
  unfold memoA at hmm
  split at hmm
  case h_2 => cases hmm
  rename_i q i o n c z
  split at hmm
  case h_2 => cases hmm
  rename_i hc
  simp only [Bool.and_eq_true] at hc
  obtain ⟨⟨⟨⟨hf, hq⟩, hz⟩, hn⟩, hg0⟩ := hc
  have hf := Nat.eq_of_beq_eq_true hf
  have hz := Nat.eq_of_beq_eq_true hz
  have hq := Nat.eq_of_beq_eq_true hq
  have hn : 0 < n := by rw [blt_iff, decide_eq_true_iff] at hn; exact hn
  subst hf; subst hz; subst hq
  split at hmm
  case h_2 => cases hmm
  rename_i cs el wr hg
  split at hmm
  case h_2 => cases hmm
  rename_i l hl
  split at hmm
  case h_2 => cases hmm
  rename_i v' hfd
  cases hmm
  obtain ⟨r, hr, rfl, rfl⟩ := findJ_mem hfd
  obtain ⟨ht, hpl, xs, hxs, hu, hl1000, hlong⟩ := h r hr
  obtain ⟨v1, r1, e1, ⟨hv1, _⟩, v2, r2, e2, ⟨L, a, c', hL, rfl, hnc, hcc, hlo⟩, e3⟩ := hva
  have e3 : r2 = [] := e3
  have hva : va = #[p, .slice (some a) n c'] := Array.ext' (by rw [e1, e2, e3, hv1, h50])
  subst hva
  rcases hlo with h0 | ⟨ha, hext⟩
  · omega
  subst ha
  obtain ⟨cc, t, fr, hob, _, _, hcs, _, _⟩ : ∃ c t fr, w.heap[L.blk]? = some (.cells c t fr) ∧ True ∧ True ∧ VRs ρ σ cs ((c.toList.drop L.sh).take cs.length) ∧ True ∧ True := by
    obtain ⟨ob, hob, c, t, fr, rfl, _, _, hc, _⟩ := hR.here hg hL
    exact ⟨c, t, fr, hob, trivial, trivial, hc, trivial, trivial⟩
  obtain ⟨hl1, hl2⟩ := sub_eq hl
  have hlen : xs.length = n := by
    have := hxs.length
    rw [List.length_map] at this
    rw [this, hl1, List.length_take, List.length_drop]; omega
  have hcells : ∀ (j : Nat) x, xs[j]? = some x → w.cell? ⟨L.blk, L.sh + o + j, none⟩ = some (.int .i64 x) := by
    intro j x hj
    have hjl : j < xs.length := (List.getElem?_eq_some_iff.1 hj).1
    have hlj : ∃ b, r.cs[j]? = some b := ⟨_, List.getElem?_eq_getElem (by have := hxs.length; rw [List.length_map] at this; omega)⟩
    obtain ⟨b, hb⟩ := hlj
    have hcb : cs[o + j]? = some b := by
      rw [hl1, List.getElem?_take, List.getElem?_drop] at hb
      split at hb
      · exact hb
      · cases hb
    obtain ⟨y, hy, hyv⟩ := cells_known hcs hcb
    rw [cell_at hob, Nat.add_assoc, hy]
    have hx2 : ∀ {l : List AV} {vs : List Value}, VRs (fun _ => none) σ l vs → ∀ (j : Nat) b, l[j]? = some b → ∃ q, vs[j]? = some q ∧ VR (fun _ => none) σ b q := by
      intro l
      induction l with
      | nil => intro vs _ j b hb; simp at hb
      | cons a l ih =>
        intro vs ⟨q, rr, e, hq, hrr⟩ j b hb
        subst e
        cases j with
        | zero => simp only [List.getElem?_cons_zero, Option.some.injEq] at hb; subst hb; exact ⟨q, rfl, hq⟩
        | succ j => simpa using ih hrr j b (by simpa using hb)
    obtain ⟨q, hq, hqv⟩ := hx2 hxs j b hb
    rw [List.getElem?_map, hj] at hq
    cases hq
    rw [tells_fun (List.all_eq_true.1 ht b (List.mem_of_getElem? hb)) hyv hqv]
  have hsize : L.blk < w.heap.size := lt_of_get hob
  have hvars : Vars gl w := Vars.of glOK gl_bareM hR hg0 hm
  have key := all_calls hk hp L.blk (L.sh + o) c' xs w hvars (hV w hw.now) hcells hsize hl1000 hlong
  rw [hlen] at key
  rw [hP]
  intro cs0
  obtain ⟨e, w', fr', ⟨rfl, hB⟩, h2⟩ := key cs0
  exact ⟨_, w', fr', ⟨_, ρ, rfl, Ext.refl _, plainA_any hpl hu, hR.frame hB, ⟨hB.os, hB.tape, hB.output, hB.size, fun k hk => hB.block k (hR.size k hk)⟩⟩, h2⟩

/-! The symbols: 0 the numbers, 1 the language, 2 their length, 30 what lines.All hands back, 50 the table; 100 + j a number's place, 200 + j the number, 300 + j, 400 + j the day's reckoning, 500 + j the day, 600 + j its text, 700 + j, 800 + j the text so far. -/
def argA : List AV := [.sym 0, .sym 1]
def mAc : Option AM := bnd (startM (EL []) (stOf gl) fLinesAll argA) (runS (EL []) (atCall fTable9) 1000)
def mAb : Option AM := bnd mAc behind
def tdA : List AItem := tdO (todoOf mAb)
def keepA1 : List (Nat × AV) := [(0, .sym 0), (1, .sym 1), (14, .sym 50)]
def thA1 : List (Nat × AV) := [(0, .sym 0), (1, .sym 1)]
theorem cA_fr : enterA (EL []) fTable9 [.sym 1] .normal = frOf mAc := by kernel_rfl
theorem cA_dst : isB mAc (fun m => dstIs m 14) = true := by kernel_rfl
theorem cA_gen : isB mAb (genOK gl [] fLinesAll 50 keepA1 [] thA1 [] [14]) = true := by kernel_rfl
theorem cA_td : todoOf mAb = some tdA := by kernel_rfl
theorem tdA_noD : noD tdA = true := by kernel_rfl
def pA : AM := patM gl [] fLinesAll 50 tdA keepA1 []
def tU32s : Nat := 22
def wantA : Nat → AV
  | 0 => .str []
  | j + 1 => .sym (Nat.add 800 j)
def orA1 (j : Nat) : List OR := [⟨4, [.sym (Nat.add 200 j), .int .u32 3652059], .sym (Nat.add 300 j)⟩, ⟨cv tU32 tDay, [.sym (Nat.add 300 j)], .sym (Nat.add 400 j)⟩, ⟨0, [.int .i64 1, .sym (Nat.add 400 j)], .sym (Nat.add 500 j)⟩,
  ⟨0, [wantA j, .sym (Nat.add 600 j)], .sym (Nat.add 700 j)⟩, ⟨0, [.sym (Nat.add 700 j), .str [10]], .sym (Nat.add 800 j)⟩]
def mrA1 (j : Nat) : List OR := [⟨Nat.add (Nat.mul 8 tU32s) 2, [.sym 0, .int .i64 (Int.ofNat j)], .sym (Nat.add 100 j)⟩, ⟨Nat.add (Nat.mul 8 tU32) 1, [.sym (Nat.add 100 j)], .sym (Nat.add 200 j)⟩]
def krA1 (j : Nat) : KR := ⟨fText18, [.sym 50, .sym (Nat.add 500 j)], ⟨.sym (Nat.add 600 j), []⟩⟩
def manyA {α : Type} (f : Nat → List α) : Nat → List α
  | 0 => []
  | j + 1 => f j ++ manyA f j
def daysA : Nat → List AV
  | 0 => []
  | j + 1 => daysA j ++ [.sym (Nat.add 500 j)]
def orAL (L : Nat) : List OR := ⟨11, [.sym 30, wantA L], .bool true⟩ :: manyA orA1 L
def mrAL (L : Nat) : List OR := ⟨Nat.add (Nat.mul 8 tU32s) 3, [.sym 0], .int .i64 (Int.ofNat L)⟩ :: (mrNil ++ manyA mrA1 L)
def krAL (L : Nat) : List KR := manyA (fun j => [krA1 j]) L
def EAL (V : World → Prop) (L : Nat) : Env := ({ E0 with V := V } : Env).askM 9 (orAL L) (mrAL L) (memoOr (memoA fLAll [⟨daysA L, .sym 30⟩]) (memoKH gl (krAL L)))
def runAL (V : World → Prop) (L : Nat) : Bool := retIs (EAL V L) fLinesAll (.bool true) (runS (EAL V L) doneA 4000 pA)
theorem runA_a (V : World → Prop) : allB (runAL V) [0, 1, 2, 3, 4, 5, 6, 7, 8, 9, 10, 11, 12, 13, 14] = true := by kernel_rfl
theorem runA_b (V : World → Prop) : allB (runAL V) [15, 16, 17, 18, 19, 20, 21, 22] = true := by kernel_rfl
theorem runA_c (V : World → Prop) : allB (runAL V) [23, 24, 25, 26, 27, 28, 29, 30] = true := by kernel_rfl
theorem runA (V : World → Prop) {L : Nat} (h : L ≤ 30) : runAL V L = true := by
  have a : ∀ z, z ≤ 30 → z ∈ [0, 1, 2, 3, 4, 5, 6, 7, 8, 9, 10, 11, 12, 13, 14] ∨ z ∈ [15, 16, 17, 18, 19, 20, 21, 22] ∨ z ∈ [23, 24, 25, 26, 27, 28, 29, 30] := by decide
  rcases a L h with h | h | h
  · exact allB_spec (runA_a V) L h
  · exact allB_spec (runA_b V) L h
  · exact allB_spec (runA_c V) L h
def EAlong (V : World → Prop) : Env := ER V [⟨15, [.sym 2, .int .i64 30], .bool true⟩] (⟨Nat.add (Nat.mul 8 tU32s) 3, [.sym 0], .sym 2⟩ :: mrNil) []
theorem runA_long (V : World → Prop) : retIs (EAlong V) fLinesAll (.bool true) (runS (EAlong V) doneA 2000 pA) = true := by kernel_rfl
end
end Go.Proofs.YtnnhijfbdkokkaaGreatDoor

/-! LinesAll: the walk. -/
namespace Go.Proofs.YtnnhijfbdkokkaaGreatDoor
open Go Go.Eng Go.ChangeShapes Go.WideShapes Go.ChangeAt Go.RowKit
noncomputable section
set_option maxRecDepth 100000

def nsI (ns : List Nat) (j : Nat) : Nat := ns.getD j 0
def dyI (ns : List Nat) (j : Nat) : Int := ((dayN (nsI ns j) : Nat) : Int)
def dsA (ns : List Nat) : Nat → List Int
  | 0 => []
  | j + 1 => dsA ns j ++ [dyI ns j]
def txA (k : Nat) (ns : List Nat) (j : Nat) : List UInt8 := allL k (dsA ns j)
theorem dsA_len (ns : List Nat) : ∀ L, (dsA ns L).length = L
  | 0 => rfl
  | L + 1 => by
    show (dsA ns L ++ [_]).length = _
    rw [List.length_append, dsA_len ns L]; rfl
theorem txA_succ (k : Nat) (ns : List Nat) (j : Nat) : txA k ns (j + 1) = (txA k ns j ++ lineI k (dyI ns j)) ++ [10] := by
  show allL k (dsA ns j ++ [_]) = _
  rw [allL_append]
  show _ ++ (lineI k (dyI ns j) ++ [10]) = _
  rw [List.append_assoc]; rfl
theorem txA_len {k : Nat} (hk : k < 4) (ns : List Nat) : ∀ L, (txA k ns L).length ≤ 61 * L
  | 0 => Nat.le_refl _
  | L + 1 => by
    rw [txA_succ, List.length_append, List.length_append]
    have h1 := txA_len hk ns L
    have h2 := lineI_len hk (dyI ns L)
    simp only [List.length_singleton]
    omega

/-! ### What the symbols stand for -/
section
variable (p : Value) (ad : Option Addr) (len cap a N o : Nat) (ns : List Nat) (L : Nat)
def sgB (c j : Nat) : Value := match c with
  | 0 => match j with
    | 0 => .slice ad len cap
    | 1 => .int .u8 (a : Int)
    | 2 => .int .i64 (len : Int)
    | 30 => strV (txA (a % 4) ns L)
    | 50 => p
    | _ => .nilIface
  | 1 => .pointer (some ⟨N, o + j, none⟩)
  | 2 => .int .u32 ((nsI ns j : Nat) : Int)
  | 3 => .int .u32 ((nsI ns j % 3652059 : Nat) : Int)
  | 4 => .int .i64 ((nsI ns j % 3652059 : Nat) : Int)
  | 5 => .int .i64 (dyI ns j)
  | 6 => strV (lineI (a % 4) (dyI ns j))
  | 7 => strV (txA (a % 4) ns j ++ lineI (a % 4) (dyI ns j))
  | 8 => strV (txA (a % 4) ns (j + 1))
  | _ => .nilIface
def sgA (i : Nat) : Value := sgB p ad len cap a N o ns L (i / 100) (i % 100)
end
section
variable {p : Value} {ad : Option Addr} {len cap a N o : Nat} {ns : List Nat} {L : Nat} {m : Int}
theorem sA (c : Nat) (hc : c < 9) {j : Nat} (hj : j < 30) : withM (sgA p ad len cap a N o ns L) m (Nat.add (100 * c) j) = sgB p ad len cap a N o ns L c j := by
  have e : withM (sgA p ad len cap a N o ns L) m (Nat.add (100 * c) j) = sgA p ad len cap a N o ns L (100 * c + j) := by
    unfold withM
    have : Nat.beq (Nat.add (100 * c) j) kM = false := by
      have : kM = 900 := rfl
      rw [this]
      cases h : Nat.beq (Nat.add (100 * c) j) 900 with
      | false => rfl
      | true => have := Nat.eq_of_beq_eq_true h; exfalso; have h2 : 100 * c + j = 900 := this; omega
    rw [this]; rfl
  rw [e]
  unfold sgA
  rw [show (100 * c + j) / 100 = c by omega, show (100 * c + j) % 100 = j by omega]
theorem mem_manyA {α : Type} {f : Nat → List α} : ∀ {L : Nat} {x : α}, x ∈ manyA f L → ∃ j, j < L ∧ x ∈ f j
  | 0, _, h => by cases h
  | L + 1, x, h => by
    have h : x ∈ f L ++ manyA f L := h
    rcases List.mem_append.1 h with h | h
    · exact ⟨L, by omega, h⟩
    · obtain ⟨j, h1, h2⟩ := mem_manyA h
      exact ⟨j, by omega, h2⟩
theorem want_conc {j : Nat} (hj : j ≤ 30) : conc (withM (sgA p ad len cap a N o ns L) m) (wantA j) = .str (nats (txA (a % 4) ns j)) := by
  cases j with
  | zero => rfl
  | succ j => exact (congrArg (concS _) (sA (p := p) (ad := ad) (len := len) (cap := cap) (a := a) (N := N) (o := o) (ns := ns) (L := L) (m := m) 8 (by omega) (j := j) (by omega))).trans rfl
theorem orAL_ok {E : Env} (hT : E.ty = E0.ty) (hL : L ≤ 30) : ∀ r ∈ orAL L, RowOK E 9 (withM (sgA p ad len cap a N o ns L) m) r := by
  have hk : a % 4 < 4 := Nat.mod_lt _ (by omega)
  intro r hr
  rcases List.mem_cons.1 hr with rfl | hr
  · refine RowOK.seq (p := nats (txA (a % 4) ns L)) (q := nats (txA (a % 4) ns L)) rfl (want_conc hL) (.inl ⟨rfl, by simp⟩)
  · obtain ⟨j, hj, hr⟩ := mem_manyA hr
    have hj30 : j < 30 := by omega
    have s2 := sA (p := p) (ad := ad) (len := len) (cap := cap) (a := a) (N := N) (o := o) (ns := ns) (L := L) (m := m) 2 (by omega) hj30
    have s3 := sA (p := p) (ad := ad) (len := len) (cap := cap) (a := a) (N := N) (o := o) (ns := ns) (L := L) (m := m) 3 (by omega) hj30
    have s4 := sA (p := p) (ad := ad) (len := len) (cap := cap) (a := a) (N := N) (o := o) (ns := ns) (L := L) (m := m) 4 (by omega) hj30
    have s5 := sA (p := p) (ad := ad) (len := len) (cap := cap) (a := a) (N := N) (o := o) (ns := ns) (L := L) (m := m) 5 (by omega) hj30
    have s6 := sA (p := p) (ad := ad) (len := len) (cap := cap) (a := a) (N := N) (o := o) (ns := ns) (L := L) (m := m) 6 (by omega) hj30
    have s7 := sA (p := p) (ad := ad) (len := len) (cap := cap) (a := a) (N := N) (o := o) (ns := ns) (L := L) (m := m) 7 (by omega) hj30
    have s8 := sA (p := p) (ad := ad) (len := len) (cap := cap) (a := a) (N := N) (o := o) (ns := ns) (L := L) (m := m) 8 (by omega) hj30
    have l1 := txA_len hk ns j
    have l2 := lineI_len hk (dyI ns j)
    simp only [orA1, List.mem_cons, List.mem_nil_iff, or_false] at hr
    rcases hr with rfl | rfl | rfl | rfl | rfl
    · exact RowOK.rem .u32 (x := ((nsI ns j : Nat) : Int)) (y := ((3652059 : Nat) : Int)) ((congrArg (concS _) s2).trans rfl) rfl ((congrArg (concS _) s3).trans rfl) (by decide) (tmodN (nsI ns j) 3652059)
    · exact conv_u32 (i := Nat.add 300 j) (j := Nat.add 400 j) hT (n := nsI ns j % 3652059) (by omega) ((congrArg (concS _) s3).trans rfl) ((congrArg (concS _) s4).trans rfl)
    · exact RowOK.add64 (x := 1) (y := ((nsI ns j % 3652059 : Nat) : Int)) (z := dyI ns j) rfl ((congrArg (concS _) s4).trans rfl) ((congrArg (concS _) s5).trans rfl) (by unfold dyI dayN; omega) (by unfold dyI dayN; omega) (by unfold dyI dayN; omega)
    · exact RowOK.cat (p := nats (txA (a % 4) ns j)) (q := nats (lineI (a % 4) (dyI ns j))) (r := nats (txA (a % 4) ns j ++ lineI (a % 4) (dyI ns j))) (want_conc (by omega)) ((congrArg (concS _) s6).trans rfl) ((congrArg (concS _) s7).trans rfl) (nats_append _ _).symm (by rw [nats_len, List.length_append]; omega)
    · exact RowOK.cat (p := nats (txA (a % 4) ns j ++ lineI (a % 4) (dyI ns j))) (q := [10]) (r := nats (txA (a % 4) ns (j + 1))) ((congrArg (concS _) s7).trans rfl) rfl ((congrArg (concS _) s8).trans rfl) (by rw [txA_succ, nats_append _ [10]]; rfl) (by have := txA_len hk ns (j + 1); rw [nats_len]; omega)
end

/-- The numbers lie there. -/
def memU (k : Nat) (ρt : Rho) (N o L : Nat) (ns : List Nat) (w : World) : Prop := (∀ j, j < L → ∃ c t fr, w.heap[N]? = some (.cells c t fr) ∧ c[o + j]? = some (.int .u32 ((nsI ns j : Nat) : Int))) ∧ tabW k ρt w
theorem memU_hold {k : Nat} {ρt : Rho} {N o L : Nat} {ns : List Nat} {b : Nat → Prop} {w : World} (h : ∀ j, j < L → ∃ c t fr, w.heap[N]? = some (.cells c t fr) ∧ c[o + j]? = some (.int .u32 ((nsI ns j : Nat) : Int))) (hb : L = 0 ∨ b N) (hT : Hold (tabW k ρt) b w) : Hold (memU k ρt N o L ns) b w :=
  ⟨⟨h, hT.now⟩, fun w1 w2 h1 hK => ⟨fun j hj => by
    obtain ⟨c, t, fr, e1, e2⟩ := h1.1 j hj
    rcases hb with hb | hb
    · omega
    · exact ⟨c, t, fr, by rw [hK.block _ hb]; exact e1, e2⟩, hT.keep w1 w2 h1.2 hK⟩⟩
theorem cell_out {w : World} {b i : Nat} {v : Value} (h : w.cell? ⟨b, i, none⟩ = some v) : ∃ c t fr, w.heap[b]? = some (.cells c t fr) ∧ c[i]? = some v := by
  unfold World.cell? at h
  split at h
  · exact ⟨_, _, _, by assumption, h⟩
  · cases h
theorem true_out18 {E : Env} {b : Nat → Prop} {ρ0 : Rho} {σ : Nat → Value} {cs : List Frame} {mm : AM} {M : Machine} {w w1 : World} (hP : E.P = Tryz.prog) (ok : EnvS E σ) (mo : MemoOK E σ) (hv : Hold E.V b w1) (hB : Below w.heap.size w w1) (hb : ∀ j, j < w.heap.size → b j) (h : Live E b ρ0 σ cs mm M w1) {n : Nat}
    (hx : retIs E fLinesAll (.bool true) (runS E doneA n mm) = true) : Wins Tryz.prog fLinesAll cs (fun e w' => e = .returned (.bool true) ∧ Below w.heap.size w w') M := by
  have := h.wins ok mo hv hx
  rw [hP] at this
  refine this.mono ?_
  rintro e w' ⟨u, ρ', rfl, hu, hK⟩
  have hu : u = .bool true := hu
  subst hu
  exact ⟨rfl, Below.kept hB hK hb⟩
theorem u32s {E : Env} (hT : E.ty = E0.ty) : und E tU32s = some (.slice tU32) ∧ szOf E tU32 = some 1 := by
  constructor
  · unfold und; rw [hT]; kernel_rfl
  · unfold szOf; rw [hT]; kernel_rfl
theorem tyU32 {E : Env} (hT : E.ty = E0.ty) : ∃ ti, E.ty.get tU32 = some ti ∧ ti.isAgg = false := by
  rw [hT]
  have h : (match E0.ty.get tU32 with | some ti => !ti.isAgg | none => false) = true := by kernel_rfl
  split at h
  · rename_i ti hti; exact ⟨ti, hti, by simpa using h⟩
  · cases h

theorem u32_of_wf {z : Int} (h : (Lit.int .u32 z).wf = true) : 0 ≤ z := by
  simp only [Lit.wf, Bool.and_eq_true, decide_eq_true_eq] at h
  have h0 : (0 : Int) ≤ z := by simpa [IntKind.min, IntKind.signed] using h.1
  exact h0
theorem Tryz.laidOut18 : laidOutB Tryz.prog = true := by kernel_rfl
theorem ints_at18 {w : World} {a : Addr} {k : IntKind} {zs : List Int} (h : ∀ i, i < zs.length → w.cell? (a.add i) = some (.int k (zs.getD i 0))) (hp : 0 < zs.length) :
    ∃ b off, a = ⟨b, off, none⟩ ∧ ∀ j, j < zs.length → w.cell? ⟨b, off + j, none⟩ = some (.int k (zs.getD j 0)) := by
  obtain ⟨b, off, spot⟩ := a
  have hspot : spot = none := by simpa [Addr.add] using World.cell?_spot (h 0 hp)
  subst hspot
  exact ⟨b, off, rfl, fun j hj => by rw [← Go.WideShapes.add_plain]; exact h j hj⟩
/-- Whatever the numbers, LinesAll hands back true. -/
theorem all18_calls {W : World} (hL : laidMet Tryz.prog Tryz.laid W) (hS : W.ShapedOpen Tryz.prog) {a len cap N o : Nat} {ad : Option Addr} {ns : List Nat} (hm : len = 0 ∨ (ad = some ⟨N, o, none⟩ ∧ ∀ j, j < len → W.cell? ⟨N, o + j, none⟩ = some (.int .u32 ((nsI ns j : Nat) : Int)))) :
    Calls Tryz.prog fLinesAll #[.slice ad len cap, .int .u8 a] W (fun e W' => e = .returned (.bool true) ∧ Below W.heap.size W W') := by
  have hvars : Vars gl W := by
    obtain ⟨m, hm⟩ := vars_laid hL hS
    exact ⟨m, hm⟩
  have hE0 := errV_laid hL hS
  have hk : a % 4 < 4 := Nat.mod_lt _ (by omega)
  intro cs
  obtain ⟨m, ρ0, ρt, p, M2, w2, hp, g1, hB, _, g4⟩ := via_start (a := a) (n := 1000) (o := []) (mc := mAc) (td := tdA) (σ0 := sgA .nilIface ad len cap a N o ns len) (va := #[.slice ad len cap, .int .u8 a]) rfl cA_fr cA_dst cA_td cA_gen (by kernel_rfl) tdA_noD hvars hE0 (fun m ρ => ⟨_, _, rfl, ⟨rfl, rfl⟩, _, _, rfl, ⟨rfl, rfl⟩, rfl⟩) (fun m r hr => by cases hr) (fun m => rfl) cs
  obtain ⟨b', q1, _, q3, q5⟩ := g4 (sgA p ad len cap a N o ns len) rfl ⟨rfl, rfl, trivial⟩
  refine Wins.steps g1 ?_
  by_cases h30 : 30 < len
  · have eO : EnvOK (EAlong (tabW (a % 4) ρt)) := ⟨envOK.ty, envOK.fns, envOK.mixed⟩
    obtain ⟨ok, mo⟩ := envR (V := tabW (a % 4) ρt) [⟨15, [.sym 2, .int .i64 30], .bool true⟩] (⟨Nat.add (Nat.mul 8 tU32s) 3, [.sym 0], .sym 2⟩ :: mrNil) [] (σ := withM (sgA p ad len cap a N o ns len) m) (fun r hr => by
      simp only [List.mem_cons, List.mem_nil_iff, or_false] at hr
      subst hr
      exact RowOK.cmp .i64 (x := (len : Int)) (y := 30) rfl rfl (.inr (.inr (.inr (.inr (.inl ⟨rfl, by symm; rw [decide_eq_true_eq]; omega⟩)))))) (fun r hr => by
      rcases List.mem_cons.1 hr with rfl | hr
      · exact RowM.len (u := tU32s) (len := len) (cap := cap) (ad := ad) (u32s (E := EAlong (tabW (a % 4) ρt)) (by rfl)).1 rfl rfl eO
      · exact mrNil_ok (by rfl) eO hp rfl r hr) (fun r hr => by cases hr)
    exact true_out18 (E := EAlong (tabW (a % 4) ρt)) rfl ok mo q3 hB q1 (q5 _) (runA_long _)
  · have h30 : len ≤ 30 := by omega
    have hmem : ∀ j, j < len → ∃ c t fr, w2.heap[N]? = some (.cells c t fr) ∧ c[o + j]? = some (.int .u32 ((nsI ns j : Nat) : Int)) := fun j hj => by
      rcases hm with h | ⟨_, h⟩
      · omega
      · obtain ⟨c, t, fr, e1, e2⟩ := cell_out (h j hj)
        exact ⟨c, t, fr, by rw [hB.block N (lt_of_get e1)]; exact e1, e2⟩
    have hbN : len = 0 ∨ b' N := by
      rcases hm with h | ⟨_, h⟩
      · exact .inl h
      · rcases Nat.eq_zero_or_pos len with h0 | h0
        · exact .inl h0
        · obtain ⟨c, t, fr, e1, _⟩ := cell_out (h 0 h0)
          exact .inr (q1 _ (lt_of_get e1))
    have hH : Hold (memU (a % 4) ρt N o len ns) b' w2 := memU_hold hmem hbN q3
    have eO : EnvOK (EAL (memU (a % 4) ρt N o len ns) len) := ⟨envOK.ty, envOK.fns, envOK.mixed⟩
    have ok : EnvS (EAL (memU (a % 4) ρt N o len ns) len) (withM (sgA p ad len cap a N o ns len) m) := EnvS.askM (⟨envOK.ty, envOK.fns, envOK.mixed⟩ : EnvOK ({ E0 with V := memU (a % 4) ρt N o len ns } : Env)) (orAL_ok (by rfl) h30) (fun r hr => by
      rcases List.mem_cons.1 hr with rfl | hr
      · exact RowM.len (u := tU32s) (len := len) (cap := cap) (ad := ad) (u32s (E := EAL (memU (a % 4) ρt N o len ns) len) (by rfl)).1 rfl rfl eO
      rcases List.mem_append.1 hr with hr | hr
      · exact mrNil_ok (by rfl) eO hp rfl r hr
      obtain ⟨j, hj, hr⟩ := mem_manyA hr
      have hj30 : j < 30 := by omega
      have s1 := sA (p := p) (ad := ad) (len := len) (cap := cap) (a := a) (N := N) (o := o) (ns := ns) (L := len) (m := m) 1 (by omega) hj30
      have s2 := sA (p := p) (ad := ad) (len := len) (cap := cap) (a := a) (N := N) (o := o) (ns := ns) (L := len) (m := m) 2 (by omega) hj30
      have had : ad = some ⟨N, o, none⟩ := by
        rcases hm with h | ⟨h, _⟩
        · omega
        · exact h
      simp only [mrA1, List.mem_cons, List.mem_nil_iff, or_false] at hr
      rcases hr with rfl | rfl
      · exact RowM.at (u := tU32s) (n := j) (kd := .i64) (blk := N) (off := o) (len := len) (cap := cap) (u32s (E := EAL (memU (a % 4) ρt N o len ns) len) (by rfl)).1 (u32s (E := EAL (memU (a % 4) ρt N o len ns) len) (by rfl)).2 (by rw [← had]; rfl) rfl hj s1 eO
      · obtain ⟨ti, hti, hA⟩ := tyU32 (E := EAL (memU (a % 4) ρt N o len ns) len) (by rfl)
        refine RowM.load (u := tU32) (blk := N) (off := o + j) s1 hti hA (fun w hw => ?_) eO
        obtain ⟨c, t, fr, e1, e2⟩ := hw.1 j hj
        exact ⟨c, t, fr, _, e1, e2, fun ρ => ⟨s2.symm, rfl⟩⟩)
    have mo : MemoOK (EAL (memU (a % 4) ρt N o len ns) len) (withM (sgA p ad len cap a N o ns len) m) := by
      refine MemoOK.or (E := EAL (memU (a % 4) ρt N o len ns) len) (memoA_ok (E := EAL (memU (a % 4) ρt N o len ns) len) rfl hk hp (fun w h => h.2) (withM_kM _ _) rfl fun r hr => ?_) (memoKH_ok (E := EAL (memU (a % 4) ρt N o len ns) len) rfl fun r hr => ?_)
      · simp only [List.mem_cons, List.mem_nil_iff, or_false] at hr
        subst hr
        have key : ∀ L, L ≤ 30 → (daysA L).all tells = true ∧ VRs (fun _ => none) (withM (sgA p ad len cap a N o ns len) m) (daysA L) ((dsA ns L).map (Value.int .i64)) := by
          intro L hL
          induction L with
          | zero => exact ⟨rfl, rfl⟩
          | succ L ih =>
            obtain ⟨i1, i2⟩ := ih (by omega)
            have s5 := sA (p := p) (ad := ad) (len := len) (cap := cap) (a := a) (N := N) (o := o) (ns := ns) (L := len) (m := m) 5 (by omega) (j := L) (by omega)
            refine ⟨?_, ?_⟩
            · show (daysA L ++ [_]).all tells = true
              rw [List.all_append, i1]; rfl
            · show VRs _ _ (daysA L ++ [_]) ((dsA ns L ++ [_]).map _)
              rw [List.map_append]
              exact VRs.append i2 ⟨_, _, rfl, ⟨s5.symm, rfl⟩, rfl⟩
        obtain ⟨k1, k2⟩ := key len h30
        refine ⟨k1, rfl, dsA ns len, k2, ⟨rfl, rfl⟩, by rw [dsA_len]; omega, ?_⟩
        have := txA_len hk ns len
        unfold txA at this
        omega
      · obtain ⟨j, hj, hr⟩ := mem_manyA hr
        simp only [List.mem_cons, List.mem_nil_iff, or_false] at hr
        subst hr
        have hj30 : j < 30 := by omega
        exact kr_text18 hk hp (fun w h => h.2) (withM_kM _ _) (z := dyI ns j) rfl (sA 5 (by omega) hj30) (sA 6 (by omega) hj30)
    exact true_out18 (E := EAL (memU (a % 4) ρt N o len ns) len) rfl ok mo hH hB q1 (q5 _) (by have := runA (memU (a % 4) ρt N o len ns) h30; exact this)
theorem all18_lifted (os : Os) (started : os.Started) (H : Type) (enc : TypeId × Value → H) :
    ReturnsInHanded {} Tryz.checked os 3 .any (fun w args => (Rows.linesAllSpec.pre enc Tryz.prog Tryz.f3 [] false w args ∧ laidMetH Tryz.prog Tryz.laid w) ∧ sizedMet enc Tryz.prog Tryz.f3 (OpenSpec.ofChange Rows.linesAllSpec) false w args)
      (Rows.linesAllSpec.post enc Tryz.prog Tryz.f3 false true false false) := by
  refine handed_shaped (C := Tryz.checked) (X := fun w _ => laidMetH Tryz.prog Tryz.laid w) (fun _ _ _ hh h => h.of_heap hh) Tryz.own started (by kernel_rfl) Tryz.func3
    (ChangeSpec.witness_shaped (enc := enc) (C := Tryz.checked) (os := os) (X := fun w _ => laidMetH Tryz.prog Tryz.laid w) false (World.laidAll Tryz.prog os Tryz.laid) #[.slice none 0 0, .int .u8 0] 8 (World.laidAll_os _ _ _)
      (World.shaped_of_ZipB (by kernel_rfl) (by kernel_rfl)) (by kernel_rfl) (by kernel_rfl) (by kernel_rfl)
      (by rw [MakeChecks.laidMetH_plain _ _ _ (by kernel_rfl)]; exact laidMet_laidAll _ (by kernel_rfl) (by kernel_rfl))) ?_
  intro W base args ds gs before hS hval0 hW hL
  have hval : ∀ (j : Nat) t v, Tryz.f3.params[j]? = some t → args[j]? = some v → Value.okWide Tryz.prog W .any base t v := hval0
  have hW' := hW
  obtain ⟨p, q, hA0, hV, rfl, _, _⟩ := hW
  have hA : DataW.TrodAll enc Tryz.prog W 0 (fun _ => true) true Tryz.f3.params.toList args.toList ds p := hA0
  rw [Tryz.params3] at hA hval
  rw [MakeChecks.laidMetH_plain _ _ _ (by kernel_rfl)] at hL
  obtain ⟨v0, v1, d0, d1, p0, p1, rfl, rfl, rfl, h0, h1⟩ := trodAll_two hA
  obtain ⟨rfl, rfl⟩ := trodVars_none hV
  obtain ⟨ad, len, cap, rfl⟩ := okWide_slice Tryz.underlying22 (hval 0 22 v0 rfl rfl)
  obtain ⟨a, rfl, rfl, rfl, w1⟩ := open_int Tryz.underlying5 (hval 1 5 v1 rfl rfl) h1
  have h0k := h0
  obtain ⟨fuel, hf⟩ := h0
  have hlt : ∀ x ∈ p0, x.block < W.heap.size := fun x hx => by
    have := hW'.lt x (by simp [hx])
    simpa using this
  have hargs : ∀ (W' : World), Below W.heap.size W W' → DataW.Trod enc Tryz.prog W' 0 (fun b => decide (b < W.heap.size)) true 22 (.slice ad len cap) d0 p0 :=
    fun W' hn => Below.trod Tryz.laidOut18 (by kernel_rfl) (of_decide_eq_true (by kernel_rfl)) h0k hn hlt
  have e1 : Rows.linesAllSpec.fn H ([d0, .lit (.int .u8 a)] ++ []) = { results := [.lit (.bool true)], args := [d0, .lit (.int .u8 a)] } := by simp [Rows.linesAllSpec]
  obtain ⟨a, rfl, _⟩ := nat8_of_wf w1
  have hm : ∃ (N o : Nat) (ns : List Nat), len = 0 ∨ (ad = some ⟨N, o, none⟩ ∧ ∀ j, j < len → W.cell? ⟨N, o + j, none⟩ = some (.int .u32 ((nsI ns j : Nat) : Int))) := by
    rcases ChangeShapes.open_ints Tryz.underlying22 Tryz.underlying27 (by kernel_rfl) hf with ⟨hcs, hx⟩ | ⟨ad', len', cap', zs, hcs, _, hl, _, hz, hx, hcell, hwz⟩
    · simp [Value.cells] at hcs
      exact ⟨0, 0, [], .inl hcs.2.1⟩
    · simp [Value.cells] at hcs
      obtain ⟨rfl, rfl, rfl⟩ := hcs
      simp only [if_true] at hz
      rcases Nat.eq_zero_or_pos len with h0 | h0
      · exact ⟨0, 0, [], .inl h0⟩
      obtain ⟨N, o, rfl, hc⟩ := ints_at18 hcell (by omega)
      refine ⟨N, o, zs.map Int.toNat, .inr ⟨rfl, fun j hj => ?_⟩⟩
      rw [hc j (by omega)]
      have hjz : j < zs.length := by omega
      have e2 : zs.getD j 0 = zs[j] := by simp [List.getD, List.getElem?_eq_getElem hjz]
      have i1 := u32_of_wf (hwz _ (List.getElem_mem hjz))
      have e3 : nsI (zs.map Int.toNat) j = zs[j].toNat := by simp [nsI, List.getD, List.getElem?_eq_getElem hjz]
      rw [e2, e3]
      congr 2
      omega
  obtain ⟨N, o, ns, hm⟩ := hm
  refine (all18_calls hL hS hm).mono fun e W' ⟨he, hB⟩ => ?_
  subst he
  refine ⟨_, rfl, _, _, _, [], p0 ++ [], [], hW', ?_, ?_, ?_, hB.frame _, fun h => by cases h⟩
  · rw [e1]; exact trodAll_mk1 (shut_bool Tryz.underlying4 true)
  · rw [e1]; exact trodAll_mk2 (hargs _ hB) (shut_int Tryz.underlying5 w1)
  · rw [e1]; rfl
end
end Go.Proofs.YtnnhijfbdkokkaaGreatDoor

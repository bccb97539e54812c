/- A store of a key that is there into the very map that is ranged over. No condition. -/
import Derived.Maps.Range
import Derived.Maps.Own
import Derived.Test.YtddeekefomhbmaaGreatDoorProg
namespace Go.Proofs.YtddeekefomhbmaaGreatDoor
open Go Go.ChangeShapes Go.WideShapes Go.MapKept Go.Maps
open Go.ChangeMaps (notKey putKey delKey mem_insert_iff eq_of_perm_sorted rising_of_pairwise filter_eq_eraseIdx hit_apart setBlock map_eraseIdx set_perm modify_eq_set eraseDups_of_nodup heap_setBlock_same heap_setBlock_other)
open Go.WideElems (Fit rd rg pl rd_key rd_val rg_of rd_mk rd_stay elemAt other_key trod_map_eq mapM_reads)

variable {H : Type} {P : Program} {k : TypeId} {R : Value → Option (DataW H × List MemPlace)} {w : World} {b r n : Nat} {D : DataW H} {left : Lit → Bool} {cnt : Nat}

theorem ranges_put_old {t e : TypeId} (h : w.ranges P k R b r n D left cnt) (K : Keyed P k) (ht : P.underlying t = some (.map k e)) {key val : Value} {kl : Lit} {d : DataW H} {ps : List MemPlace} (hkey : keyOf P k key = some kl) (hv : R val = some (d, ps)) (hin : Maps.has D kl = true) :
    ∃ w', (Instr.mapUpdate t (.map (some b)) key val).run P w = .ok () w' ∧ w'.ranges P k R b r n (D.put kl d) left cnt ∧ w.grownBy w' (some b) := by
  have hne := h.ne
  obtain ⟨es, clock, since, seen, c0, hb, F, hs, rfl, hr, hold, rfl, hl1, hl2, hsc, hsk⟩ := h
  rcases K.find w hkey es.toList F.keys with ⟨h1, h2⟩ | ⟨j, e0, h1, h2, h3⟩
  · exfalso
    obtain ⟨p, hp, hpk⟩ := List.any_eq_true.1 hin
    obtain ⟨x, hx, rfl⟩ := List.mem_map.1 (mem_sorted.1 hp)
    have e1 := WideAt.sameKey_eq hpk
    obtain ⟨y, hy⟩ := F.reads x hx
    rw [rg_of hy] at e1
    exact h2 x hx (K.inj (e1 ▸ rd_key hy) hkey)
  · have hj : es[j]? = some e0 := by simpa using h2
    have hjl : j < es.toList.length := (List.getElem?_eq_some_iff.1 h2).1
    have hm0 : e0 ∈ es.toList := List.mem_of_getElem? h2
    have hkeyf : ∀ e', es[j]? = some e' → ({ e' with key := key, val := val } : MapEntry).key = e'.key := fun e' he' => by rw [hj] at he'; cases he'; exact h3.symm
    have hlist : (es.modify j (fun e' => { e' with key := key, val := val })).toList = es.toList.set j { e0 with key := key, val := val } := by rw [Array.toList_modify, modify_eq_set _ _ _ _ h2]
    have who : ∀ x ∈ es.toList.set j { e0 with key := key, val := val }, x = { e0 with key := key, val := val } ∨ (x ∈ es.toList ∧ x.key ≠ key) := by
      intro x hx
      obtain ⟨i, hi, ex⟩ := List.getElem_of_mem hx
      rw [List.getElem_set] at ex
      split at ex
      · exact Or.inl ex.symm
      · rename_i hne
        have hi' : i < es.toList.length := by simpa using hi
        refine Or.inr ⟨ex ▸ List.getElem_mem hi', ?_⟩
        rw [← h3]
        exact other_key F h2 (by rw [List.getElem?_eq_getElem hi', ex]) (fun e1 => hne e1.symm)
    have hnew : ({ e0 with key := key, val := val } : MapEntry) ∈ es.toList.set j { e0 with key := key, val := val } := List.mem_iff_getElem.2 ⟨j, by simpa using hjl, by simp⟩
    have F' : Fit P k R (es.modify j (fun e' => { e' with key := key, val := val })) clock := ⟨by simpa using F.size, stamped_modify F.stamped _ _ (fun _ _ => rfl) (fun e' _ he' => hkeyf e' he'), fun x hx => by
      rw [hlist] at hx
      rcases who x hx with rfl | ⟨hx', _⟩
      · exact ⟨_, rd_mk hkey hv⟩
      · exact F.reads x hx'⟩
    have hput : ((es.modify j (fun e' => { e' with key := key, val := val })).toList.map (rg P k R)).foldr DataW.insert [] = putKey kl d ((es.toList.map (rg P k R)).foldr DataW.insert []) := by
      refine sorted_put K.one ⟨key, hkey⟩ (fit_keys F) (fit_apart K F) ?_
      rw [filter_one K F hkey h2 h3, hlist, List.map_set, rg_of (rd_mk hkey hv)]
      exact set_perm _ _ (by simpa using hjl) _
    have hrg0 : (rg P k R e0).1 = kl := by
      obtain ⟨y, hy⟩ := F.reads e0 hm0
      rw [rg_of hy]
      have := rd_key hy
      rw [h3, hkey] at this
      exact (Option.some.inj this).symm
    have hrg1 : ∀ born, (rg P k R ⟨key, val, born⟩).1 = kl := fun born => by rw [rg_of (rd_mk hkey hv)]
    have hsz : (leftOf (es.modify j (fun e' => { e' with key := key, val := val })) seen).size = (leftOf es seen).size := by
      have e1 : ∀ a : Array MapEntry, (leftOf a seen).size = ((a.toList.map (·.born)).filter fun x => !seen.contains x).length := fun a => by
        unfold leftOf
        rw [← Array.length_toList, Array.toList_filter, List.filter_map, List.length_map]; rfl
      rw [e1, e1, hlist, List.map_set]
      congr 2
      apply List.ext_getElem?
      intro i
      rw [List.getElem?_set]
      split
      · rename_i h; subst h
        rw [if_pos (by simpa using hjl), List.getElem?_map, h2]; rfl
      · rfl
    refine ⟨setBlock w b (.map (es.modify j (fun e' => { e' with key := key, val := val })) clock), ?_, ⟨_, clock, since, seen, c0, heap_setBlock_same hb _, F', by simpa using hs, by rw [DataW.put_eq, hput], (heap_setBlock_other hb _ hne).trans hr, fun x hx => ?_, hsz, fun x hx => ?_, fun kl' hkl' => ?_, hsc, hsk⟩, ⟨rfl, rfl, rfl, by simp [setBlock], fun i _ hi => heap_setBlock_other hb _ (fun e => hi (by rw [e]))⟩⟩
    · simp [Instr.mapUpdate, run_underlying ht, MapKept.run_getObj_map hb, K.check w false hkey, h1, hj, h3, K.stays w hkey, MapKept.run_setObj_map _ hb, Result.andThen, setBlock]
    · rw [hlist] at hx
      rcases who x hx with rfl | ⟨hx', _⟩
      · exact hold e0 hm0
      · exact hold x hx'
    · rw [hlist] at hx
      rcases who x hx with rfl | ⟨hx', _⟩
      · rw [hrg1, ← hrg0]; exact hl1 e0 hm0
      · exact hl1 x hx'
    · obtain ⟨x, hx, e1⟩ := hl2 kl' hkl'
      rw [hlist]
      by_cases hxk : x.key = key
      · refine ⟨_, hnew, ?_⟩
        obtain ⟨y, hy⟩ := F.reads x hx
        have h4 := rd_key hy
        rw [hxk, hkey] at h4
        rw [rg_of hy] at e1
        rw [hrg1]
        exact (Option.some.inj h4).trans e1
      · obtain ⟨i, hi⟩ := List.getElem?_of_mem hx
        refine ⟨x, ?_, e1⟩
        refine List.mem_of_getElem? (i := i) ?_
        rw [List.getElem?_set_ne (fun e => hxk (by rw [← e, h2] at hi; cases hi; exact h3))]
        exact hi
end Go.Proofs.YtddeekefomhbmaaGreatDoor

/- An assignment to a map's element in two steps (the entry, then its value), as one update. -/
import Derived.WideKeyEntry
import Derived.Test.YtfpkeinknhijaaaGreatMapI
namespace Go.Proofs.YtfpkeinknhijaaaGreat
set_option linter.unusedVariables false
open Go Go.Maps Go.ChangeMaps Go.WideElems

section
variable {H : Type} {P : Program} {w : World} {t k e : TypeId} {R : Value → Option (DataW H × List MemPlace)} {b : Nat} {es : Array MapEntry} {clock : Nat}
/-- Both steps run, and end where the one step ends. -/
theorem entry_two (K : Keyed P k) (ht : P.underlying t = some (.map k e)) {z : Value} (hz : ∀ u : World, (zeroValue e).run P u = .ok z u) (hb : w.heap[b]? = some (.map es clock)) (F : Fit P k R es clock) {key : Value} {kl : Lit} (hkey : keyOf P k key = some kl) (val : Value) :
    ∃ (v0 : Value) (st : Nat) (wa wb : World), (Instr.mapEntry t (.map (some b)) key).run P w = .ok (.tuple #[v0, goInt st]) wa ∧ (Instr.entryStore t (.map (some b)) (goInt st) val).run P wa = .ok () wb ∧
      (Instr.mapUpdate t (.map (some b)) key val).run P w = .ok () wb := by
  obtain ⟨s1, s2, _⟩ := F.stamped
  have hbl : b < w.heap.size := (Array.getElem?_eq_some_iff.1 hb).1
  have hset : ∀ o o' : Obj, setBlock (setBlock w b o) b o' = setBlock w b o' := fun o o' => by simp [setBlock]
  have hat : ∀ o : Obj, (setBlock w b o).heap[b]? = some o := fun o => by simp [setBlock, hbl]
  rcases K.find w hkey es.toList F.keys with ⟨h1, h2⟩ | ⟨j, e0, h1, h2, h3⟩
  · have hidx : (es.push ⟨key, z, clock⟩).findIdx? (fun e => ((e.born : Nat) : Int) == ((clock : Nat) : Int)) = some es.size := by
      rw [findIdx_arr]
      refine findIdx_born (l := (es.push ⟨key, z, clock⟩).toList) (j := es.size) (e0 := ⟨key, z, clock⟩) ?_ (by simp)
      simp only [Array.toList_push, List.map_append, List.map_cons, List.map_nil]
      refine List.nodup_append.2 ⟨s2, by simp, fun a ha c hc e1 => ?_⟩
      simp only [List.mem_singleton] at hc
      obtain ⟨x, hx, rfl⟩ := List.mem_map.1 ha
      have := s1 x hx
      omega
    have hmod : (es.push ⟨key, z, clock⟩).modify es.size (fun e => { e with val := val }) = es.push ⟨key, val, clock⟩ := by
      apply Array.ext'
      rw [Array.toList_modify, Array.toList_push, Array.toList_push, ← Array.length_toList, modify_last]
    have hw2 := hat (.map (es.push ⟨key, z, clock⟩) (clock + 1))
    refine ⟨z, clock, setBlock w b (.map (es.push ⟨key, z, clock⟩) (clock + 1)), setBlock w b (.map (es.push ⟨key, val, clock⟩) (clock + 1)), ?_, ?_, ?_⟩
    · simp [Instr.mapEntry, run_underlying ht, MapKept.run_getObj_map hb, K.check w false hkey, h1, hz, MapKept.run_setObj_map _ hb, Result.andThen, setBlock]
    · have := hset (.map (es.push ⟨key, z, clock⟩) (clock + 1)) (.map (es.push ⟨key, val, clock⟩) (clock + 1))
      rw [← this]
      generalize setBlock w b (.map (es.push ⟨key, z, clock⟩) (clock + 1)) = W2 at hw2 ⊢
      simp [Instr.entryStore, MapKept.run_getObj_map hw2, asInt, asIntOf, goInt, hidx, hmod, MapKept.run_setObj_map _ hw2, Result.andThen, setBlock]
    · simp [Instr.mapUpdate, run_underlying ht, MapKept.run_getObj_map hb, K.check w false hkey, h1, MapKept.run_setObj_map _ hb, Result.andThen, setBlock]
  · have hj : es[j]? = some e0 := by simpa using h2
    have hsame : es.modify j (fun e => { e with key := key }) = es := by
      apply Array.ext'
      rw [Array.toList_modify, modify_eq_set _ _ _ _ h2, show ({ e0 with key := key } : MapEntry) = e0 by rw [← h3]]
      exact set_self _ _ _ h2
    have hidx : es.findIdx? (fun e => ((e.born : Nat) : Int) == ((e0.born : Nat) : Int)) = some j := by
      rw [findIdx_arr]
      exact findIdx_born s2 h2
    have hmod : es.modify j (fun e => { e with val := val }) = es.modify j (fun e' => { e' with key := key, val := val }) := by
      apply Array.ext'
      rw [Array.toList_modify, Array.toList_modify, modify_eq_set _ _ _ _ h2, modify_eq_set _ _ _ _ h2, ← h3]
    have hw2 := hat (.map es clock)
    refine ⟨e0.val, e0.born, setBlock w b (.map es clock), setBlock w b (.map (es.modify j (fun e' => { e' with key := key, val := val })) clock), ?_, ?_, ?_⟩
    · simp [Instr.mapEntry, run_underlying ht, MapKept.run_getObj_map hb, K.check w false hkey, h1, hj, h3, K.stays w hkey, hsame, MapKept.run_setObj_map _ hb, Result.andThen, setBlock]
    · have := hset (.map es clock) (.map (es.modify j (fun e' => { e' with key := key, val := val })) clock)
      rw [← this]
      generalize setBlock w b (.map es clock) = W2 at hw2 ⊢
      simp [Instr.entryStore, MapKept.run_getObj_map hw2, asInt, asIntOf, goInt, hidx, hmod, MapKept.run_setObj_map _ hw2, Result.andThen, setBlock]
    · simp [Instr.mapUpdate, run_underlying ht, MapKept.run_getObj_map hb, K.check w false hkey, h1, hj, h3, K.stays w hkey, MapKept.run_setObj_map _ hb, Result.andThen, setBlock]
end
/-- m[k] = v in two steps, at a map with integer keys. -/
theorem World.mapv.twoStep {α : Type} {val : α → Value} {q : IntKind} {P : Program} {w : World} {kt : TypeId} {ok : α → Prop} {b n : Nat} {m : List (Nat × α)} {t e : TypeId} (h : World.mapv val q w P kt ok b n m) (hk : P.underlying kt = some (.int q)) (ht : P.underlying t = some (.map kt e)) (hn : n < maxLen) {a : α} (ha : ok a)
    {s : Nat} (hs : (Lit.int q (s : Int)).wf = true) {z : Value} (hz : ∀ u : World, (zeroValue e).run P u = .ok z u) : ∃ (v0 : Value) (st : Nat) (wa wb : World), (Instr.mapEntry t (.map (some b)) (.int q (s : Int))).run P w = .ok (.tuple #[v0, goInt st]) wa ∧ (Instr.entryStore t (.map (some b)) (goInt st) (val a)).run P wa = .ok () wb ∧ World.mapv val q wb P kt ok b (n + 1) (mput m s a) ∧ w.grownBy wb (some b) := by
  obtain ⟨w', hrun, h1, h2⟩ := h.update hk ht hn ha hs
  obtain ⟨⟨es, clock, hb, F, _, _⟩, _⟩ := h
  obtain ⟨v0, st, wa, wb, r1, r2, r3⟩ := entry_two (int_keyed hk) ht hz hb F (keyOf_int_mk hk hs) (val a)
  have e : w' = wb := by
    have := hrun.symm.trans r3
    injection this
  subst e
  exact ⟨v0, st, wa, w', r1, r2, h1, h2⟩
end Go.Proofs.YtfpkeinknhijaaaGreat

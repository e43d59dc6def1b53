/- A map with string keys whose elements are values of a plain kind: what it holds as a list of pairs. -/
import Derived.Maps.Ext
import Derived.Maps.RangeWalk
import Derived.Sort.KeysCollected
import Derived.Lib.SlMapFilter
namespace Go.Proofs.Ytnofpbhpnhbbpaa
open Go.Maps Go.Sort

section
variable {α : Type}

/-- What stands at a key, or z. -/
def mget (z : α) (m : List (List UInt8 × α)) (k : List UInt8) : α := match m.find? (fun p => p.1 == k) with | some p => p.2 | none => z
def mhas (m : List (List UInt8 × α)) (k : List UInt8) : Bool := m.any (fun p => p.1 == k)
def mins (x : List UInt8 × α) : List (List UInt8 × α) → List (List UInt8 × α)
  | [] => [x]
  | y :: r => if (Lit.string x.1).before (.string y.1) then x :: y :: r else y :: mins x r
def mput (m : List (List UInt8 × α)) (k : List UInt8) (v : α) : List (List UInt8 × α) := mins (k, v) (m.filter fun p => !(p.1 == k))
def mdel (m : List (List UInt8 × α)) (k : List UInt8) : List (List UInt8 × α) := m.filter fun p => !(p.1 == k)
def mkeys (m : List (List UInt8 × α)) : List (List UInt8) := m.map (·.1)

theorem mins_perm (x : List UInt8 × α) : ∀ l : List (List UInt8 × α), (mins x l).Perm (x :: l)
  | [] => List.Perm.refl _
  | y :: r => by
    unfold mins
    split
    · exact List.Perm.refl _
    · exact (List.Perm.cons y (mins_perm x r)).trans (List.Perm.swap x y r)
theorem mins_length (x : List UInt8 × α) (l : List (List UInt8 × α)) : (mins x l).length = l.length + 1 := by
  rw [(mins_perm x l).length_eq]; rfl
theorem mem_mput {m : List (List UInt8 × α)} {k : List UInt8} {v : α} {p : List UInt8 × α} : p ∈ mput m k v ↔ p = (k, v) ∨ (p ∈ m ∧ p.1 ≠ k) := by
  unfold mput
  rw [(mins_perm _ _).mem_iff, List.mem_cons, List.mem_filter]
  simp
theorem mhas_iff {m : List (List UInt8 × α)} {k : List UInt8} : mhas m k = true ↔ k ∈ mkeys m := by
  unfold mhas mkeys
  rw [List.any_eq_true, List.mem_map]
  constructor
  · rintro ⟨p, hp, h⟩; exact ⟨p, hp, by simpa using h⟩
  · rintro ⟨p, hp, rfl⟩; exact ⟨p, hp, by simp⟩
/-- No key stands twice. -/
def Apart (m : List (List UInt8 × α)) : Prop := (mkeys m).Nodup
theorem Apart.filter {m : List (List UInt8 × α)} (h : Apart m) (q : List UInt8 × α → Bool) : Apart (m.filter q) :=
  List.Sublist.nodup (List.Sublist.map (fun p : List UInt8 × α => p.1) (List.filter_sublist (p := q) (l := m))) h
theorem Apart.put {m : List (List UInt8 × α)} (h : Apart m) (k : List UInt8) (v : α) : Apart (mput m k v) := by
  unfold Apart mkeys mput
  rw [((mins_perm (k, v) _).map (·.1)).nodup_iff, List.map_cons, List.nodup_cons]
  refine ⟨fun hm => ?_, h.filter _⟩
  obtain ⟨p, hp, hk⟩ := List.mem_map.1 hm
  have := (List.mem_filter.1 hp).2
  rw [hk] at this
  simp at this
theorem mget_mem {z : α} {m : List (List UInt8 × α)} (h : Apart m) {k : List UInt8} {v : α} (hm : (k, v) ∈ m) : mget z m k = v := by
  unfold mget
  induction m with
  | nil => simp at hm
  | cons y r ih =>
    rw [List.find?_cons]
    rcases List.mem_cons.1 hm with rfl | hm
    · simp
    · have hn : ¬ y.1 = k := by
        intro e
        have hnd : (y.1 :: r.map (·.1)).Nodup := h
        exact (List.nodup_cons.1 hnd).1 (List.mem_map.2 ⟨(k, v), hm, e.symm⟩)
      have : (y.1 == k) = false := by simpa using hn
      rw [this]
      exact ih (by have hnd : (y.1 :: r.map (·.1)).Nodup := h; exact (List.nodup_cons.1 hnd).2) hm
theorem mget_none {z : α} {m : List (List UInt8 × α)} {k : List UInt8} (h : mhas m k = false) : mget z m k = z := by
  unfold mget
  rw [List.find?_eq_none.2 (fun p hp => by
    unfold mhas at h
    rw [List.any_eq_false] at h
    exact h p hp)]
theorem mget_some {z : α} {m : List (List UInt8 × α)} {k : List UInt8} (h : mhas m k = true) : (k, mget z m k) ∈ m := by
  unfold mhas at h
  unfold mget
  cases hf : m.find? (fun p => p.1 == k) with
  | none =>
    rw [List.find?_eq_none] at hf
    obtain ⟨p, hp, hk⟩ := List.any_eq_true.1 h
    exact absurd hk (hf p hp)
  | some p =>
    have h1 := List.mem_of_find?_eq_some hf
    have h2 := List.find?_some hf
    have h3 : p.1 = k := by simpa using h2
    subst h3
    exact h1
theorem mhas_put {m : List (List UInt8 × α)} {k k' : List UInt8} {v : α} : mhas (mput m k v) k' = (decide (k' = k) || mhas m k') := by
  rw [Bool.eq_iff_iff, Bool.or_eq_true, decide_eq_true_eq, mhas_iff, mhas_iff]
  unfold mkeys
  simp only [List.mem_map, mem_mput]
  constructor
  · rintro ⟨p, h | ⟨h, _⟩, rfl⟩
    · left; rw [h]
    · right; exact ⟨p, h, rfl⟩
  · rintro (rfl | ⟨p, h, rfl⟩)
    · exact ⟨_, Or.inl rfl, rfl⟩
    · by_cases e : p.1 = k
      · exact ⟨(k, v), Or.inl rfl, e.symm⟩
      · exact ⟨p, Or.inr ⟨h, e⟩, rfl⟩
theorem mget_put_same {z : α} {m : List (List UInt8 × α)} (h : Apart m) (k : List UInt8) (v : α) : mget z (mput m k v) k = v :=
  mget_mem (h.put k v) (mem_mput.2 (Or.inl rfl))
theorem mget_put_other {z : α} {m : List (List UInt8 × α)} (h : Apart m) {k k' : List UInt8} (hne : k' ≠ k) (v : α) : mget z (mput m k v) k' = mget z m k' := by
  cases hh : mhas m k'
  · rw [mget_none hh, mget_none]
    rw [mhas_put, hh, Bool.or_false, decide_eq_false hne]
  · exact mget_mem (h.put k v) (mem_mput.2 (Or.inr ⟨mget_some hh, hne⟩))
theorem mput_length {m : List (List UInt8 × α)} (k : List UInt8) (v : α) : (mput m k v).length ≤ m.length + 1 := by
  unfold mput
  rw [mins_length]
  have := List.length_filter_le (fun p => !(p.1 == k)) m
  omega
theorem filter_apart_len {k : List UInt8} : ∀ {m : List (List UInt8 × α)}, Apart m → (m.filter fun p => !(p.1 == k)).length + (if mhas m k then 1 else 0) = m.length
  | [], _ => rfl
  | y :: r, h => by
    have hnd : (y.1 :: r.map (·.1)).Nodup := h
    have ih := filter_apart_len (k := k) (m := r) (List.nodup_cons.1 hnd).2
    have hm : mhas (y :: r) k = (y.1 == k || mhas r k) := rfl
    rw [List.filter_cons, hm]
    cases hy : y.1 == k
    · simp only [Bool.not_false, if_true, Bool.false_or, List.length_cons]
      omega
    · have hr : mhas r k = false := by
        cases hc : mhas r k
        · rfl
        · exfalso
          have e : y.1 = k := by simpa using hy
          exact (List.nodup_cons.1 hnd).1 (by rw [e]; exact mhas_iff.1 hc)
      rw [hr] at ih
      simp only [Bool.false_eq_true, if_false, Nat.add_zero, Bool.not_true, Bool.true_or, if_true, List.length_cons] at ih ⊢
      omega
theorem mput_len {m : List (List UInt8 × α)} (h : Apart m) (k : List UInt8) (v : α) : (mput m k v).length = if mhas m k then m.length else m.length + 1 := by
  unfold mput
  rw [mins_length]
  have := filter_apart_len (k := k) h
  cases hc : mhas m k <;> simp [hc] at this ⊢ <;> omega

/-! ### the datum -/
variable (val : α → Value)
def liftM (m : List (List UInt8 × α)) : DataW Value := .map (m.map fun p => (.string p.1, .held (val p.2)))
open Classical in
noncomputable def Rv (ok : α → Prop) (v : Value) : Option (DataW Value × List MemPlace) := if ∃ a, ok a ∧ v = val a then some (.held v, []) else none
theorem Rv_val {ok : α → Prop} {a : α} (h : ok a) : Rv val ok (val a) = some (.held (val a), []) := by
  unfold Rv
  rw [if_pos ⟨a, h, rfl⟩]
theorem Rv_inv {ok : α → Prop} {v : Value} {z : DataW Value × List MemPlace} (h : Rv val ok v = some z) : z = (.held v, []) ∧ ∃ a, ok a ∧ v = val a := by
  unfold Rv at h
  split at h
  · rename_i hc
    cases h
    exact ⟨rfl, hc⟩
  · cases h

/-- Block b is a map with string keys whose entries are m: the elements are such as ok says. -/
def World.mapv (w : World) (P : Program) (k : TypeId) (ok : α → Prop) (b n : Nat) (m : List (List UInt8 × α)) : Prop :=
  w.ownsMap P k (Rv val ok) b n (liftM val m) ∧ ∀ p ∈ m, ok p.2

variable {val}
theorem liftM_atKey (z : α) (m : List (List UInt8 × α)) (k : List UInt8) : (liftM val m).atKey (.string k) (.held (val z)) = .held (val (mget z m k)) := by
  unfold liftM mget DataW.atKey
  simp only
  induction m with
  | nil => rfl
  | cons y r ih =>
    rw [List.map_cons, List.find?_cons, List.find?_cons]
    have e : (Lit.string y.1).sameKey (.string k) = (y.1 == k) := rfl
    rw [e]
    cases hy : y.1 == k
    · exact ih
    · rfl
theorem liftM_has (m : List (List UInt8 × α)) (k : List UInt8) : Maps.has (liftM val m) (.string k) = mhas m k := by
  unfold liftM mhas
  rw [has_eq, List.any_map]
  rfl
theorem liftM_size (m : List (List UInt8 × α)) : Maps.size (liftM val m) = m.length := by
  unfold liftM
  rw [size_eq, List.length_map]
theorem liftM_keys (m : List (List UInt8 × α)) : strKeys (liftM val m) = mkeys m := by
  unfold liftM strKeys mkeys
  simp only [List.map_map]
  rfl
theorem lift_ins (x : List UInt8 × α) : ∀ l : List (List UInt8 × α), DataW.insert (Lit.string x.1, DataW.held (val x.2)) (l.map fun p => (Lit.string p.1, DataW.held (val p.2))) = (mins x l).map fun p => (Lit.string p.1, DataW.held (val p.2))
  | [] => rfl
  | y :: r => by
    rw [List.map_cons]
    unfold DataW.insert mins
    show (if (Lit.string x.1).before (.string y.1) = true then _ else _) = _
    split
    · rfl
    · rw [List.map_cons, lift_ins x r]
theorem lift_filter (q : List UInt8 × α → Bool) (f : Lit × DataW Value → Bool) (h : ∀ p : List UInt8 × α, f (.string p.1, .held (val p.2)) = q p) (m : List (List UInt8 × α)) :
    (m.map fun p => (Lit.string p.1, DataW.held (val p.2))).filter f = (m.filter q).map fun p => (Lit.string p.1, DataW.held (val p.2)) := by
  rw [List.filter_map]
  congr 2
  funext p
  exact h p
theorem liftM_put (m : List (List UInt8 × α)) (k : List UInt8) (v : α) : (liftM val m).put (.string k) (.held (val v)) = liftM val (mput m k v) := by
  unfold liftM mput
  show DataW.map (DataW.insert _ (List.filter _ _)) = _
  rw [lift_filter (fun p => !(p.1 == k)) _ (fun p => rfl), lift_ins (k, v)]
theorem liftM_del (m : List (List UInt8 × α)) (k : List UInt8) : (liftM val m).del (.string k) = liftM val (mdel m k) := by
  unfold liftM mdel
  show DataW.map (List.filter _ _) = _
  rw [lift_filter (fun p => !(p.1 == k)) _ (fun p => rfl)]
theorem liftM_deleteFunc (q : List UInt8 × α → Bool) (pd : Lit → DataW Value → Bool) (h : ∀ p : List UInt8 × α, pd (.string p.1) (.held (val p.2)) = q p) (m : List (List UInt8 × α)) :
    Lib.deleteFuncD pd (liftM val m) = liftM val (m.filter fun p => !q p) := by
  unfold liftM Lib.deleteFuncD
  show DataW.map (List.filter _ _) = _
  rw [lift_filter (fun p => !q p) _ (fun p => by show (!pd _ _) = _; rw [h p])]

variable {P : Program} {kt : TypeId} {ok : α → Prop} {w : World} {b n : Nat} {m : List (List UInt8 × α)}
theorem World.mapv.lt (h : World.mapv val w P kt ok b n m) : b < w.heap.size := h.1.lt
theorem World.mapv.kept {w' : World} {row : Option Nat} (h : World.mapv val w P kt ok b n m) (hg : w.grownBy w' row) (hne : some b ≠ row) : World.mapv val w' P kt ok b n m := ⟨h.1.kept hg hne, h.2⟩
theorem World.mapv.made (w : World) (P : Program) (kt : TypeId) (ok : α → Prop) : World.mapv val (w.alloc (.map #[] 0)) P kt ok w.heap.size 0 [] :=
  ⟨World.ownsMap_made w P kt _, by simp⟩
theorem World.mapv.mono (h : World.mapv val w P kt ok b n m) {n' : Nat} (hn : n ≤ n') : World.mapv val w P kt ok b n' m := ⟨h.1.mono hn, h.2⟩
theorem World.mapv.size (h : World.mapv val w P kt ok b n m) : m.length ≤ n := by
  have := h.1.size_le
  rwa [liftM_size] at this
theorem World.mapv.apart (h : World.mapv val w P kt ok b n m) (hk : P.underlying kt = some .string) : Apart m := by
  obtain ⟨es, hD, hp⟩ := h.1.tidy (string_keyed hk)
  unfold liftM at hD
  cases hD
  rw [List.pairwise_map] at hp
  unfold Apart mkeys
  rw [List.nodup_iff_pairwise_ne, List.pairwise_map]
  exact hp.imp (fun {p q} hne e => hne (by rw [e]))
theorem World.mapv.keyLen (h : World.mapv val w P kt ok b n m) (hk : P.underlying kt = some .string) : ∀ p ∈ m, p.1.length ≤ maxLen := by
  intro p hp
  refine strKeys_le h.1 hk p.1 ?_
  rw [liftM_keys]
  exact List.mem_map.2 ⟨p, hp, rfl⟩
theorem mget_ok {z : α} (h : World.mapv val w P kt ok b n m) (hz : ok z) (k : List UInt8) : ok (mget z m k) := by
  cases hh : mhas m k
  · rw [mget_none hh]; exact hz
  · exact h.2 _ (mget_some hh)

/-- m[k] -/
theorem World.mapv.lookup {t e : TypeId} (h : World.mapv val w P kt ok b n m) (hk : P.underlying kt = some .string) (ht : P.underlying t = some (.map kt e)) {z : α} (hok : ok z) (hz : (zeroValue e).run P w = .ok (val z) w)
    {s : ByteArray} (hs : s.size ≤ maxLen) : (Instr.lookup t (.map (some b)) (.string s) false).run P w = .ok (val (mget z m s.data.toList)) w := by
  obtain ⟨v, ps, hrun, hv⟩ := h.1.lookup (string_keyed hk) ht hz (Rv_val val hok) (WideMaps.keyOf_string_mk hk hs)
  rw [liftM_atKey] at hv
  obtain ⟨hv, _⟩ := Rv_inv val hv
  rw [hrun]
  have : val (mget z m s.data.toList) = v := by simpa using congrArg Prod.fst hv
  rw [this]
/-- v, ok := m[k] -/
theorem World.mapv.lookOk {t e : TypeId} (h : World.mapv val w P kt ok b n m) (hk : P.underlying kt = some .string) (ht : P.underlying t = some (.map kt e)) {z : α} (hok : ok z) (hz : (zeroValue e).run P w = .ok (val z) w)
    {s : ByteArray} (hs : s.size ≤ maxLen) : (Instr.lookup t (.map (some b)) (.string s) true).run P w = .ok (.tuple #[val (mget z m s.data.toList), .bool (mhas m s.data.toList)]) w := by
  obtain ⟨v, ps, hrun, hv⟩ := h.1.look_ok (string_keyed hk) ht hz (Rv_val val hok) (WideMaps.keyOf_string_mk hk hs)
  rw [liftM_atKey] at hv
  obtain ⟨hv, _⟩ := Rv_inv val hv
  rw [hrun, liftM_has]
  have : val (mget z m s.data.toList) = v := by simpa using congrArg Prod.fst hv
  rw [this]
/-- m[k] = v -/
theorem World.mapv.update {t e : TypeId} (h : World.mapv val w P kt ok b n m) (hk : P.underlying kt = some .string) (ht : P.underlying t = some (.map kt e)) (hn : n < maxLen) {a : α} (ha : ok a)
    {s : ByteArray} (hs : s.size ≤ maxLen) : ∃ w', (Instr.mapUpdate t (.map (some b)) (.string s) (val a)).run P w = .ok () w' ∧ World.mapv val w' P kt ok b (n + 1) (mput m s.data.toList a) ∧ w.grownBy w' (some b) := by
  obtain ⟨w', hrun, ho, hg⟩ := h.1.update (string_keyed hk) ht hn (WideMaps.keyOf_string_mk hk hs) (Rv_val val ha)
  rw [liftM_put] at ho
  refine ⟨w', hrun, ⟨ho, fun p hp => ?_⟩, hg⟩
  rcases mem_mput.1 hp with rfl | ⟨hp, _⟩
  · exact ha
  · exact h.2 p hp
/-- delete(m, k) -/
theorem World.mapv.drop {t e : TypeId} (h : World.mapv val w P kt ok b n m) (hk : P.underlying kt = some .string) (ht : P.underlying t = some (.map kt e)) (ty : TypeId)
    {s : ByteArray} (hs : s.size ≤ maxLen) : ∃ w', (Builtin.delete_ #[t, kt] ty #[.map (some b), .string s]).run P w = .ok (.tuple #[]) w' ∧ World.mapv val w' P kt ok b n (mdel m s.data.toList) ∧ w.grownBy w' (some b) := by
  obtain ⟨w', hrun, ho, hg⟩ := h.1.drop (string_keyed hk) ht (WideMaps.keyOf_string_mk hk hs) ty
  rw [liftM_del] at ho
  exact ⟨w', hrun, ⟨ho, fun p hp => h.2 p (List.mem_filter.1 hp).1⟩, hg.grown⟩
theorem World.mapv.len {t e : TypeId} (h : World.mapv val w P kt ok b n m) (ht : P.underlying t = some (.map kt e)) (ty : TypeId) : (Builtin.len_ #[t] ty #[.map (some b)]).run P w = .ok (.int .i64 (m.length : Int)) w := by
  rw [h.1.len ht ty, liftM_size]
/-- The copy of a map: maps.Clone. -/
theorem World.mapv.clone {w' : World} {b' : Nat} (h : World.mapv val w P kt ok b n m) (ho : w'.ownsMap P kt (Rv val ok) b' n (liftM val m)) : World.mapv val w' P kt ok b' n m := ⟨ho, h.2⟩

/-! ### at the operation -/
section
variable {ops : Array Oper} {rest : List Oper} {o : Oper} {a : Act} {Q : Exit → Act → World → Prop}
theorem wpList_update_v (hg : o.guard = none) (mm x v : Operand) (t e : TypeId) (hop : o.op = Op.mapUpdate t mm x v) (hk : P.underlying kt = some .string) (ht : P.underlying t = some (.map kt e)) 
    (hm : a.eval mm = .map (some b)) (h : World.mapv val w P kt ok b n m) (hn : n < maxLen) (s : ByteArray) (hs : s.size ≤ maxLen) (y : α) (hx : a.eval x = .string s) (hv : a.eval v = val y) (hy : ok y)
    (hK : ∀ w', World.mapv val w' P kt ok b (n + 1) (mput m s.data.toList y) → w.grownBy w' (some b) → wpList P ops Q rest (a.put o.dst undef) w') :
    wpList P ops Q (o :: rest) a w := by
  refine wpList_plain hg fun K' hK' => ?_
  obtain ⟨w', hrun, r1, r2⟩ := h.update hk ht hn hy hs
  unfold Oper.wp
  simp [execOp, hop, hm, hx, hv, hrun, Result.andThen]
  exact hK' _ _ (hK w' r1 r2)
theorem wpList_delete_v (hg : o.guard = none) (mm x : Operand) (t e : TypeId) (hop : o.op = Op.call { callee := Callee.builtin Builtin.delete, args := #[mm, x], argTypes := #[t, kt] }) (hk : P.underlying kt = some .string) (ht : P.underlying t = some (.map kt e))
    (hm : a.eval mm = .map (some b)) (h : World.mapv val w P kt ok b n m) (s : ByteArray) (hs : s.size ≤ maxLen) (hx : a.eval x = .string s)
    (hK : ∀ w', World.mapv val w' P kt ok b n (mdel m s.data.toList) → w.grownBy w' (some b) → wpList P ops Q rest (a.put o.dst (.tuple #[])) w') :
    wpList P ops Q (o :: rest) a w := by
  refine wpList_plain hg fun K' hK' => ?_
  obtain ⟨w', hrun, r1, r2⟩ := h.drop hk ht o.type hs
  unfold Oper.wp
  simp [execOp, hop, resolve, invoke, builtin, hm, hx, hrun, Result.andThen]
  exact hK' _ _ (hK w' r1 r2)
end
end

end Go.Proofs.Ytnofpbhpnhbbpaa

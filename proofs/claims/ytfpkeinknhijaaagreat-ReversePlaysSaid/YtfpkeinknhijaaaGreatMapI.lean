/- A map with keys of an integer type whose elements are values of a plain kind: what it holds as a list of pairs. -/
import Derived.Maps.Ext
import Derived.Maps.RangeWalk
import Derived.Sort.KeysCollected
import Derived.Lib.SlMapFilter
namespace Go.Proofs.YtfpkeinknhijaaaGreat
open Go.Maps Go.Sort

section
variable {α : Type}

/-- What stands at a key, or z. -/
def mget (z : α) (m : List (Nat × α)) (k : Nat) : α := match m.find? (fun p => p.1 == k) with | some p => p.2 | none => z
def mhas (m : List (Nat × α)) (k : Nat) : Bool := m.any (fun p => p.1 == k)
def mins (x : Nat × α) : List (Nat × α) → List (Nat × α)
  | [] => [x]
  | y :: r => if x.1 < y.1 then x :: y :: r else y :: mins x r
def mput (m : List (Nat × α)) (k : Nat) (v : α) : List (Nat × α) := mins (k, v) (m.filter fun p => !(p.1 == k))
def mdel (m : List (Nat × α)) (k : Nat) : List (Nat × α) := m.filter fun p => !(p.1 == k)
def mkeys (m : List (Nat × α)) : List Nat := m.map (·.1)

theorem mins_perm (x : Nat × α) : ∀ l : List (Nat × α), (mins x l).Perm (x :: l)
  | [] => List.Perm.refl _
  | y :: r => by
    unfold mins
    split
    · exact List.Perm.refl _
    · exact (List.Perm.cons y (mins_perm x r)).trans (List.Perm.swap x y r)
theorem mins_length (x : Nat × α) (l : List (Nat × α)) : (mins x l).length = l.length + 1 := by
  rw [(mins_perm x l).length_eq]; rfl
theorem mem_mput {m : List (Nat × α)} {k : Nat} {v : α} {p : Nat × α} : p ∈ mput m k v ↔ p = (k, v) ∨ (p ∈ m ∧ p.1 ≠ k) := by
  unfold mput
  rw [(mins_perm _ _).mem_iff, List.mem_cons, List.mem_filter]
  simp
theorem mhas_iff {m : List (Nat × α)} {k : Nat} : mhas m k = true ↔ k ∈ mkeys m := by
  unfold mhas mkeys
  rw [List.any_eq_true, List.mem_map]
  constructor
  · rintro ⟨p, hp, h⟩; exact ⟨p, hp, by simpa using h⟩
  · rintro ⟨p, hp, rfl⟩; exact ⟨p, hp, by simp⟩
/-- No key stands twice. -/
def Apart (m : List (Nat × α)) : Prop := (mkeys m).Nodup
theorem Apart.filter {m : List (Nat × α)} (h : Apart m) (z : Nat × α → Bool) : Apart (m.filter z) :=
  List.Sublist.nodup (List.Sublist.map (fun p : Nat × α => p.1) (List.filter_sublist (p := z) (l := m))) h
theorem Apart.put {m : List (Nat × α)} (h : Apart m) (k : Nat) (v : α) : Apart (mput m k v) := by
  unfold Apart mkeys mput
  rw [((mins_perm (k, v) _).map (·.1)).nodup_iff, List.map_cons, List.nodup_cons]
  refine ⟨fun hm => ?_, h.filter _⟩
  obtain ⟨p, hp, hk⟩ := List.mem_map.1 hm
  have := (List.mem_filter.1 hp).2
  rw [hk] at this
  simp at this
theorem mget_mem {z : α} {m : List (Nat × α)} (h : Apart m) {k : Nat} {v : α} (hm : (k, v) ∈ m) : mget z m k = v := by
  unfold mget
  induction m with
  | nil => simp at hm
  | cons y r ih =>
    rw [List.find?_cons]
    rcases List.mem_cons.1 hm with rfl | hm
    · simp
    · have hn : ¬ y.1 = k := by
        intro e
        have hnd : (y.1 :: r.map (·.1)).Nodup := h
        exact (List.nodup_cons.1 hnd).1 (List.mem_map.2 ⟨(k, v), hm, e.symm⟩)
      have : (y.1 == k) = false := by simpa using hn
      rw [this]
      exact ih (by have hnd : (y.1 :: r.map (·.1)).Nodup := h; exact (List.nodup_cons.1 hnd).2) hm
theorem mget_none {z : α} {m : List (Nat × α)} {k : Nat} (h : mhas m k = false) : mget z m k = z := by
  unfold mget
  rw [List.find?_eq_none.2 (fun p hp => by
    unfold mhas at h
    rw [List.any_eq_false] at h
    exact h p hp)]
theorem mget_some {z : α} {m : List (Nat × α)} {k : Nat} (h : mhas m k = true) : (k, mget z m k) ∈ m := by
  unfold mhas at h
  unfold mget
  cases hf : m.find? (fun p => p.1 == k) with
  | none =>
    rw [List.find?_eq_none] at hf
    obtain ⟨p, hp, hk⟩ := List.any_eq_true.1 h
    exact absurd hk (hf p hp)
  | some p =>
    have h1 := List.mem_of_find?_eq_some hf
    have h2 := List.find?_some hf
    have h3 : p.1 = k := by simpa using h2
    subst h3
    exact h1
theorem mhas_put {m : List (Nat × α)} {k k' : Nat} {v : α} : mhas (mput m k v) k' = (decide (k' = k) || mhas m k') := by
  rw [Bool.eq_iff_iff, Bool.or_eq_true, decide_eq_true_eq, mhas_iff, mhas_iff]
  unfold mkeys
  simp only [List.mem_map, mem_mput]
  constructor
  · rintro ⟨p, h | ⟨h, _⟩, rfl⟩
    · left; rw [h]
    · right; exact ⟨p, h, rfl⟩
  · rintro (rfl | ⟨p, h, rfl⟩)
    · exact ⟨_, Or.inl rfl, rfl⟩
    · by_cases e : p.1 = k
      · exact ⟨(k, v), Or.inl rfl, e.symm⟩
      · exact ⟨p, Or.inr ⟨h, e⟩, rfl⟩
theorem mget_put_same {z : α} {m : List (Nat × α)} (h : Apart m) (k : Nat) (v : α) : mget z (mput m k v) k = v :=
  mget_mem (h.put k v) (mem_mput.2 (Or.inl rfl))
theorem mget_put_other {z : α} {m : List (Nat × α)} (h : Apart m) {k k' : Nat} (hne : k' ≠ k) (v : α) : mget z (mput m k v) k' = mget z m k' := by
  cases hh : mhas m k'
  · rw [mget_none hh, mget_none]
    rw [mhas_put, hh, Bool.or_false, decide_eq_false hne]
  · exact mget_mem (h.put k v) (mem_mput.2 (Or.inr ⟨mget_some hh, hne⟩))
theorem mput_length {m : List (Nat × α)} (k : Nat) (v : α) : (mput m k v).length ≤ m.length + 1 := by
  unfold mput
  rw [mins_length]
  have := List.length_filter_le (fun p => !(p.1 == k)) m
  omega
theorem filter_apart_len {k : Nat} : ∀ {m : List (Nat × α)}, Apart m → (m.filter fun p => !(p.1 == k)).length + (if mhas m k then 1 else 0) = m.length
  | [], _ => rfl
  | y :: r, h => by
    have hnd : (y.1 :: r.map (·.1)).Nodup := h
    have ih := filter_apart_len (k := k) (m := r) (List.nodup_cons.1 hnd).2
    have hm : mhas (y :: r) k = (y.1 == k || mhas r k) := rfl
    rw [List.filter_cons, hm]
    cases hy : y.1 == k
    · simp only [Bool.not_false, if_true, Bool.false_or, List.length_cons]
      omega
    · have hr : mhas r k = false := by
        cases hc : mhas r k
        · rfl
        · exfalso
          have e : y.1 = k := by simpa using hy
          exact (List.nodup_cons.1 hnd).1 (by rw [e]; exact mhas_iff.1 hc)
      rw [hr] at ih
      simp only [Bool.false_eq_true, if_false, Nat.add_zero, Bool.not_true, Bool.true_or, if_true, List.length_cons] at ih ⊢
      omega
theorem mput_len {m : List (Nat × α)} (h : Apart m) (k : Nat) (v : α) : (mput m k v).length = if mhas m k then m.length else m.length + 1 := by
  unfold mput
  rw [mins_length]
  have := filter_apart_len (k := k) h
  cases hc : mhas m k <;> simp [hc] at this ⊢ <;> omega

theorem same_int (q : IntKind) (a b : Nat) : (Lit.int q (a : Int)).sameKey (.int q (b : Int)) = (a == b) := by
  unfold Lit.sameKey
  rw [Bool.eq_iff_iff]
  simp [Int.ofNat_inj]
theorem before_int (q : IntKind) (a b : Nat) : (Lit.int q (a : Int)).before (.int q (b : Int)) = decide (a < b) := by
  unfold Lit.before
  rw [Bool.eq_iff_iff]
  simp

/-! ### the datum -/
variable (val : α → Value) (q : IntKind)
def liftM (m : List (Nat × α)) : DataW Value := .map (m.map fun p => (.int q (p.1 : Int), .held (val p.2)))
open Classical in
noncomputable def Rv (ok : α → Prop) (v : Value) : Option (DataW Value × List MemPlace) := if ∃ a, ok a ∧ v = val a then some (.held v, []) else none
theorem Rv_val {ok : α → Prop} {a : α} (h : ok a) : Rv val ok (val a) = some (.held (val a), []) := by
  unfold Rv
  rw [if_pos ⟨a, h, rfl⟩]
theorem Rv_inv {ok : α → Prop} {v : Value} {z : DataW Value × List MemPlace} (h : Rv val ok v = some z) : z = (.held v, []) ∧ ∃ a, ok a ∧ v = val a := by
  unfold Rv at h
  split at h
  · rename_i hc
    cases h
    exact ⟨rfl, hc⟩
  · cases h

/-- Block b is a map with integer keys whose entries are m: the elements are such as ok says. -/
def World.mapv (w : World) (P : Program) (k : TypeId) (ok : α → Prop) (b n : Nat) (m : List (Nat × α)) : Prop :=
  w.ownsMap P k (Rv val ok) b n (liftM val q m) ∧ ∀ p ∈ m, ok p.2

variable {val} {q}
theorem liftM_atKey (z : α) (m : List (Nat × α)) (k : Nat) : (liftM val q m).atKey (.int q (k : Int)) (.held (val z)) = .held (val (mget z m k)) := by
  unfold liftM mget DataW.atKey
  simp only
  induction m with
  | nil => rfl
  | cons y r ih =>
    rw [List.map_cons, List.find?_cons, List.find?_cons]
    have e : (Lit.int q (y.1 : Int)).sameKey (.int q (k : Int)) = (y.1 == k) := same_int q _ _
    rw [e]
    cases hy : y.1 == k
    · exact ih
    · rfl
theorem liftM_has (m : List (Nat × α)) (k : Nat) : Maps.has (liftM val q m) (.int q (k : Int)) = mhas m k := by
  unfold liftM mhas
  rw [has_eq, List.any_map]
  congr 1
  funext p
  exact same_int q _ _
theorem liftM_size (m : List (Nat × α)) : Maps.size (liftM val q m) = m.length := by
  unfold liftM
  rw [size_eq, List.length_map]
theorem lift_ins (x : Nat × α) : ∀ l : List (Nat × α), DataW.insert (Lit.int q (x.1 : Int), DataW.held (val x.2)) (l.map fun p => (Lit.int q (p.1 : Int), DataW.held (val p.2))) = (mins x l).map fun p => (Lit.int q (p.1 : Int), DataW.held (val p.2))
  | [] => rfl
  | y :: r => by
    rw [List.map_cons]
    unfold DataW.insert mins
    show (if (Lit.int q (x.1 : Int)).before (.int q (y.1 : Int)) = true then _ else _) = _
    rw [before_int]
    by_cases h : x.1 < y.1
    · rw [if_pos (decide_eq_true h), if_pos h]
      rfl
    · rw [if_neg (by simp; omega), if_neg h, List.map_cons, lift_ins x r]
theorem lift_filter (z : Nat × α → Bool) (f : Lit × DataW Value → Bool) (h : ∀ p : Nat × α, f (.int q (p.1 : Int), .held (val p.2)) = z p) (m : List (Nat × α)) :
    (m.map fun p => (Lit.int q (p.1 : Int), DataW.held (val p.2))).filter f = (m.filter z).map fun p => (Lit.int q (p.1 : Int), DataW.held (val p.2)) := by
  rw [List.filter_map]
  congr 2
  funext p
  exact h p
theorem liftM_put (m : List (Nat × α)) (k : Nat) (v : α) : (liftM val q m).put (.int q (k : Int)) (.held (val v)) = liftM val q (mput m k v) := by
  unfold liftM mput
  show DataW.map (DataW.insert _ (List.filter _ _)) = _
  rw [lift_filter (fun p => !(p.1 == k)) _ (fun p => by show (!(Lit.sameKey _ _)) = _; rw [same_int]), lift_ins (k, v)]
theorem liftM_del (m : List (Nat × α)) (k : Nat) : (liftM val q m).del (.int q (k : Int)) = liftM val q (mdel m k) := by
  unfold liftM mdel
  show DataW.map (List.filter _ _) = _
  rw [lift_filter (fun p => !(p.1 == k)) _ (fun p => by show (!(Lit.sameKey _ _)) = _; rw [same_int])]
theorem liftM_deleteFunc (z : Nat × α → Bool) (pd : Lit → DataW Value → Bool) (h : ∀ p : Nat × α, pd (.int q (p.1 : Int)) (.held (val p.2)) = z p) (m : List (Nat × α)) :
    Lib.deleteFuncD pd (liftM val q m) = liftM val q (m.filter fun p => !z p) := by
  unfold liftM Lib.deleteFuncD
  show DataW.map (List.filter _ _) = _
  rw [lift_filter (fun p => !z p) _ (fun p => by show (!pd _ _) = _; rw [h p])]

variable {P : Program} {kt : TypeId} {ok : α → Prop} {w : World} {b n : Nat} {m : List (Nat × α)}
theorem World.mapv.lt (h : World.mapv val q w P kt ok b n m) : b < w.heap.size := h.1.lt
theorem World.mapv.kept {w' : World} {row : Option Nat} (h : World.mapv val q w P kt ok b n m) (hg : w.grownBy w' row) (hne : some b ≠ row) : World.mapv val q w' P kt ok b n m := ⟨h.1.kept hg hne, h.2⟩
theorem World.mapv.made (w : World) (P : Program) (kt : TypeId) (ok : α → Prop) : World.mapv val q (w.alloc (.map #[] 0)) P kt ok w.heap.size 0 [] :=
  ⟨World.ownsMap_made w P kt _, by simp⟩
theorem World.mapv.mono (h : World.mapv val q w P kt ok b n m) {n' : Nat} (hn : n ≤ n') : World.mapv val q w P kt ok b n' m := ⟨h.1.mono hn, h.2⟩
theorem World.mapv.size (h : World.mapv val q w P kt ok b n m) : m.length ≤ n := by
  have := h.1.size_le
  rwa [liftM_size] at this
theorem World.mapv.sorted (h : World.mapv val q w P kt ok b n m) (hk : P.underlying kt = some (.int q)) : m.Pairwise (fun x y => x.1 < y.1) := by
  obtain ⟨es, hD, hp, _⟩ := h.1.canon (int_keyed hk)
  unfold liftM at hD
  cases hD
  rw [List.pairwise_map] at hp
  refine hp.imp (fun {x y} hb => ?_)
  rw [before_int] at hb
  exact of_decide_eq_true hb
theorem World.mapv.apart (h : World.mapv val q w P kt ok b n m) (hk : P.underlying kt = some (.int q)) : Apart m := by
  unfold Apart mkeys
  rw [List.nodup_iff_pairwise_ne, List.pairwise_map]
  exact (h.sorted hk).imp (fun {x y} hlt e => by omega)
theorem mget_ok {z : α} (h : World.mapv val q w P kt ok b n m) (hz : ok z) (k : Nat) : ok (mget z m k) := by
  cases hh : mhas m k
  · rw [mget_none hh]; exact hz
  · exact h.2 _ (mget_some hh)

/-- m[k] -/
theorem World.mapv.lookup {t e : TypeId} (h : World.mapv val q w P kt ok b n m) (hk : P.underlying kt = some (.int q)) (ht : P.underlying t = some (.map kt e)) {z : α} (hok : ok z) (hz : (zeroValue e).run P w = .ok (val z) w)
    {s : Nat} (hs : (Lit.int q (s : Int)).wf = true) : (Instr.lookup t (.map (some b)) (.int q (s : Int)) false).run P w = .ok (val (mget z m s)) w := by
  obtain ⟨v, ps, hrun, hv⟩ := h.1.lookup (int_keyed hk) ht hz (Rv_val val hok) (keyOf_int_mk hk hs)
  rw [liftM_atKey] at hv
  obtain ⟨hv, _⟩ := Rv_inv val hv
  rw [hrun]
  have : val (mget z m s) = v := by simpa using congrArg Prod.fst hv
  rw [this]
/-- v, ok := m[k] -/
theorem World.mapv.lookOk {t e : TypeId} (h : World.mapv val q w P kt ok b n m) (hk : P.underlying kt = some (.int q)) (ht : P.underlying t = some (.map kt e)) {z : α} (hok : ok z) (hz : (zeroValue e).run P w = .ok (val z) w)
    {s : Nat} (hs : (Lit.int q (s : Int)).wf = true) : (Instr.lookup t (.map (some b)) (.int q (s : Int)) true).run P w = .ok (.tuple #[val (mget z m s), .bool (mhas m s)]) w := by
  obtain ⟨v, ps, hrun, hv⟩ := h.1.look_ok (int_keyed hk) ht hz (Rv_val val hok) (keyOf_int_mk hk hs)
  rw [liftM_atKey] at hv
  obtain ⟨hv, _⟩ := Rv_inv val hv
  rw [hrun, liftM_has]
  have : val (mget z m s) = v := by simpa using congrArg Prod.fst hv
  rw [this]
/-- m[k] = v -/
theorem World.mapv.update {t e : TypeId} (h : World.mapv val q w P kt ok b n m) (hk : P.underlying kt = some (.int q)) (ht : P.underlying t = some (.map kt e)) (hn : n < maxLen) {a : α} (ha : ok a)
    {s : Nat} (hs : (Lit.int q (s : Int)).wf = true) : ∃ w', (Instr.mapUpdate t (.map (some b)) (.int q (s : Int)) (val a)).run P w = .ok () w' ∧ World.mapv val q w' P kt ok b (n + 1) (mput m s a) ∧ w.grownBy w' (some b) := by
  obtain ⟨w', hrun, ho, hg⟩ := h.1.update (int_keyed hk) ht hn (keyOf_int_mk hk hs) (Rv_val val ha)
  rw [liftM_put] at ho
  refine ⟨w', hrun, ⟨ho, fun p hp => ?_⟩, hg⟩
  rcases mem_mput.1 hp with rfl | ⟨hp, _⟩
  · exact ha
  · exact h.2 p hp
/-- delete(m, k) -/
theorem World.mapv.drop {t e : TypeId} (h : World.mapv val q w P kt ok b n m) (hk : P.underlying kt = some (.int q)) (ht : P.underlying t = some (.map kt e)) (ty : TypeId)
    {s : Nat} (hs : (Lit.int q (s : Int)).wf = true) : ∃ w', (Builtin.delete_ #[t, kt] ty #[.map (some b), .int q (s : Int)]).run P w = .ok (.tuple #[]) w' ∧ World.mapv val q w' P kt ok b n (mdel m s) ∧ w.grownBy w' (some b) := by
  obtain ⟨w', hrun, ho, hg⟩ := h.1.drop (int_keyed hk) ht (keyOf_int_mk hk hs) ty
  rw [liftM_del] at ho
  exact ⟨w', hrun, ⟨ho, fun p hp => h.2 p (List.mem_filter.1 hp).1⟩, hg.grown⟩
theorem World.mapv.len {t e : TypeId} (h : World.mapv val q w P kt ok b n m) (ht : P.underlying t = some (.map kt e)) (ty : TypeId) : (Builtin.len_ #[t] ty #[.map (some b)]).run P w = .ok (.int .i64 (m.length : Int)) w := by
  rw [h.1.len ht ty, liftM_size]
/-- The copy of a map: maps.Clone. -/
theorem World.mapv.clone {w' : World} {b' : Nat} (h : World.mapv val q w P kt ok b n m) (ho : w'.ownsMap P kt (Rv val ok) b' n (liftM val q m)) : World.mapv val q w' P kt ok b' n m := ⟨ho, h.2⟩

/-! ### range -/
def doneL (q : IntKind) (left : Lit → Bool) (m : List (Nat × α)) : List (Nat × α) := m.filter fun p => !left (.int q (p.1 : Int))
theorem doneL_start (m : List (Nat × α)) : doneL q (Maps.has (liftM val q m)) m = [] := by
  unfold doneL
  rw [List.filter_eq_nil_iff]
  intro p hp
  rw [liftM_has, mhas_iff.2 (List.mem_map.2 ⟨p, hp, rfl⟩)]
  simp
theorem doneL_end {left : Lit → Bool} (h : ∀ k, left k = false) (m : List (Nat × α)) : doneL q left m = m := by
  unfold doneL
  rw [List.filter_eq_self]
  intro p _
  rw [h]
  rfl
theorem doneL_step {left : Lit → Bool} : ∀ {m : List (Nat × α)} {k : Nat} {c : α}, Apart m → (k, c) ∈ m → left (.int q (k : Int)) = true → (doneL q (fun z => left z && !z.sameKey (.int q (k : Int))) m).Perm ((k, c) :: doneL q left m)
  | [], k, c, _, h, _ => by cases h
  | y :: r, k, c, ha, h, hl => by
    have hnd : (y.1 :: r.map (·.1)).Nodup := ha
    obtain ⟨hn1, hn2⟩ := List.nodup_cons.1 hnd
    rcases List.mem_cons.1 h with rfl | h
    · have e : doneL q (fun z => left z && !z.sameKey (.int q (k : Int))) r = doneL q left r := by
        unfold doneL
        refine List.filter_congr (fun p hp => ?_)
        have hne : ¬ p.1 = k := fun e => hn1 (List.mem_map.2 ⟨p, hp, e⟩)
        have : (p.1 == k) = false := by simpa using hne
        simp only [same_int, this, Bool.not_false, Bool.and_true]
      unfold doneL at e ⊢
      rw [List.filter_cons, List.filter_cons, e]
      simp [same_int, hl]
    · have hne : ¬ y.1 = k := fun e => hn1 (by rw [e]; exact List.mem_map.2 ⟨_, h, rfl⟩)
      have ih := doneL_step (left := left) (m := r) hn2 h hl
      unfold doneL at ih ⊢
      have e2 : (y.1 == k) = false := by simpa using hne
      rw [List.filter_cons, List.filter_cons]
      simp only [same_int, e2, Bool.not_false, Bool.and_true] at ih ⊢
      cases hy : left (.int q (y.1 : Int))
      · simp only [Bool.not_false, if_true]
        exact (List.Perm.cons y ih).trans (List.Perm.swap _ _ _)
      · simpa using ih
theorem mem_of_atKey {kl : Lit} {y : DataW Value} (hkl : ∃ x : Int, kl = .int q x) (h : ∀ z, (liftM val q m).atKey kl z = y) : ∃ k : Nat, kl = .int q (k : Int) ∧ mhas m k = true := by
  have hh := Maps.has_true_of_atKey h
  obtain ⟨x, rfl⟩ := hkl
  unfold liftM at hh
  rw [has_eq, List.any_map, List.any_eq_true] at hh
  obtain ⟨p, hp, hs⟩ := hh
  have hs' : (Lit.int q (p.1 : Int)).sameKey (.int q x) = true := hs
  have e : (p.1 : Int) = x := by
    unfold Lit.sameKey at hs'
    simpa using hs'
  subst e
  exact ⟨p.1, rfl, mhas_iff.2 (List.mem_map.2 ⟨p, hp, rfl⟩)⟩
section
variable {ops : Array Oper} {rest : List Oper} {o : Oper} {a : Act} {Q : Exit → Act → World → Prop}
theorem wpList_next_v (hg : o.guard = none) (it : Operand) (hop : o.op = Op.next it false) (hk : P.underlying kt = some (.int q)) (r : Nat) (left : Lit → Bool) (cnt : Nat) (z : α)
    (hit : a.eval it = .pointer (some ⟨r, 0, none⟩)) (h : w.ranges P kt (Rv val ok) b r n (liftM val q m) left cnt) (hap : Apart m) (inj : ∀ x y, val x = val y → x = y)
    (hDone : doneL q left m = m → wpList P ops Q rest (a.put o.dst (.tuple #[.bool false])) w)
    (hMore : ∀ (k : Nat) (c : α) (w' : World) (left' : Lit → Bool) (cnt' : Nat), (k, c) ∈ m → ok c → (doneL q left' m).Perm ((k, c) :: doneL q left m) → w'.ranges P kt (Rv val ok) b r n (liftM val q m) left' cnt' → cnt' < cnt →
      w.grownBy w' (some r) → w'.heap.size = w.heap.size → (Instr.entry (.pointer (some ⟨r, 0, none⟩))).run P w' = .ok (.tuple #[.int q (k : Int), val c]) w' → wpList P ops Q rest (a.put o.dst (.tuple #[.bool true, .int q (k : Int), val c])) w') :
    wpList P ops Q (o :: rest) a w := by
  refine wpList_next_ranges w hg it hop kt (int_keyed hk) (Rv val ok) (fun x : Int => Value.int q x) val (fun key kl hkey => by obtain ⟨x, h1, _⟩ := Maps.keyOf_int_inv hk hkey; exact ⟨x, h1⟩)
    (fun v y hv => by obtain ⟨_, c, _, h1⟩ := Rv_inv val hv; exact ⟨c, h1⟩) b r n (liftM val q m) left cnt hit h (fun _ hl => hDone (doneL_end hl m)) ?_
  intro x c kl y w' cnt' hkey hl hv hat hrg hlt hgr hsz hen
  obtain ⟨x', hx1, hx2, _⟩ := Maps.keyOf_int_inv hk hkey
  obtain ⟨k, hk1, hk2⟩ := mem_of_atKey ⟨x', hx2⟩ hat
  subst hk1
  injection hx1 with _ hx3
  injection hx2 with _ hx4
  subst hx3
  subst hx4
  obtain ⟨hy, c', hc1, hc2⟩ := Rv_inv val hv
  have e : val (mget z m k) = val c := by
    have := hat (.held (val z))
    rw [liftM_atKey, hy] at this
    injection this
  have hm := mget_some (z := z) hk2
  rw [inj _ _ e] at hm
  exact hMore k c w' _ cnt' hm (by rw [inj _ _ hc2]; exact hc1) (doneL_step hap hm hl) hrg hlt hgr hsz hen
end

/-! ### at the operation -/
section
variable {ops : Array Oper} {rest : List Oper} {o : Oper} {a : Act} {Q : Exit → Act → World → Prop}
theorem wpList_update_v (hg : o.guard = none) (mm x v : Operand) (t e : TypeId) (hop : o.op = Op.mapUpdate t mm x v) (hk : P.underlying kt = some (.int q)) (ht : P.underlying t = some (.map kt e)) 
    (hm : a.eval mm = .map (some b)) (h : World.mapv val q w P kt ok b n m) (hn : n < maxLen) (s : Nat) (hs : (Lit.int q (s : Int)).wf = true) (y : α) (hx : a.eval x = .int q (s : Int)) (hv : a.eval v = val y) (hy : ok y)
    (hK : ∀ w', World.mapv val q w' P kt ok b (n + 1) (mput m s y) → w.grownBy w' (some b) → wpList P ops Q rest (a.put o.dst undef) w') :
    wpList P ops Q (o :: rest) a w := by
  refine wpList_plain hg fun K' hK' => ?_
  obtain ⟨w', hrun, r1, r2⟩ := h.update hk ht hn hy hs
  unfold Oper.wp
  simp [execOp, hop, hm, hx, hv, hrun, Result.andThen]
  exact hK' _ _ (hK w' r1 r2)
theorem wpList_delete_v (hg : o.guard = none) (mm x : Operand) (t e : TypeId) (hop : o.op = Op.call { callee := Callee.builtin Builtin.delete, args := #[mm, x], argTypes := #[t, kt] }) (hk : P.underlying kt = some (.int q)) (ht : P.underlying t = some (.map kt e))
    (hm : a.eval mm = .map (some b)) (h : World.mapv val q w P kt ok b n m) (s : Nat) (hs : (Lit.int q (s : Int)).wf = true) (hx : a.eval x = .int q (s : Int))
    (hK : ∀ w', World.mapv val q w' P kt ok b n (mdel m s) → w.grownBy w' (some b) → wpList P ops Q rest (a.put o.dst (.tuple #[])) w') :
    wpList P ops Q (o :: rest) a w := by
  refine wpList_plain hg fun K' hK' => ?_
  obtain ⟨w', hrun, r1, r2⟩ := h.drop hk ht o.type hs
  unfold Oper.wp
  simp [execOp, hop, resolve, invoke, builtin, hm, hx, hrun, Result.andThen]
  exact hK' _ _ (hK w' r1 r2)
end
end

end Go.Proofs.YtfpkeinknhijaaaGreat

/- Maps keyed by integers, whatever their elements are. Nothing of the program stands here. -/
import Derived.Test.YtbkkplednfdfdaaFr
import Derived.Maps.OwnSet
import Derived.Maps.OwnOps
import Derived.WideKeyEntry
namespace Go.Proofs.Ytbkkplednfdfdaa
open Go.RowKit Go.Maps Go.MapKept Go.ChangeMaps

/-- f, but v at i. -/
def upd {α : Type} (f : Int → Option α) (i : Int) (v : α) : Int → Option α := fun j => if j = i then some v else f j
theorem upd_same {α : Type} (f : Int → Option α) (i : Int) (v : α) : upd f i v i = some v := if_pos rfl
theorem upd_other {α : Type} (f : Int → Option α) {i j : Int} (v : α) (h : j ≠ i) : upd f i v j = f j := if_neg h
/-- The entries hold just what f says. -/
structure Holds (es : Array MapEntry) (clock n : Nat) (f : Int → Option Value) : Prop where
  stamped : Stamped es clock
  size : es.size ≤ n
  key : ∀ x ∈ es.toList, ∃ i, x.key = .int .i64 i ∧ (Lit.int .i64 i).wf = true
  mem : ∀ x ∈ es.toList, ∀ i, x.key = .int .i64 i → f i = some x.val
  all : ∀ i v, f i = some v → ∃ x ∈ es.toList, x.key = .int .i64 i
/-- Block b is a map of at most n entries, which are what f says. -/
def Mp (w : World) (b n : Nat) (f : Int → Option Value) : Prop := ∃ es clock, w.heap[b]? = some (.map es clock) ∧ Holds es clock n f

theorem Holds.other {es : Array MapEntry} {clock n : Nat} {f : Int → Option Value} (h : Holds es clock n f) {i j : Nat} {x y : MapEntry} (hx : es.toList[i]? = some x) (hy : es.toList[j]? = some y) (hne : i ≠ j) : x.key ≠ y.key := by
  obtain ⟨_, _, h3⟩ := h.stamped
  intro e
  have h1 : (es.toList.map (·.key))[i]? = some x.key := by rw [List.getElem?_map, hx]; rfl
  have h2 : (es.toList.map (·.key))[j]? = some y.key := by rw [List.getElem?_map, hy]; rfl
  obtain ⟨hi, e1⟩ := List.getElem?_eq_some_iff.1 h1
  obtain ⟨hj, e2⟩ := List.getElem?_eq_some_iff.1 h2
  rcases Nat.lt_or_gt_of_ne hne with hl | hl
  · exact List.pairwise_iff_getElem.1 h3 i j hi hj hl (by rw [e1, e2, e])
  · exact List.pairwise_iff_getElem.1 h3 j i hj hi hl (by rw [e1, e2, e])
theorem Holds.none {es : Array MapEntry} {clock n : Nat} {f : Int → Option Value} (h : Holds es clock n f) {i : Int} (hn : ∀ x ∈ es.toList, x.key ≠ .int .i64 i) : f i = none := by
  cases hf : f i with
  | none => rfl
  | some v => obtain ⟨x, hx, hk⟩ := h.all i v hf; exact absurd hk (hn x hx)
theorem Holds.empty (clock n : Nat) : Holds #[] clock n (fun _ => .none) := ⟨stamped_empty _, Nat.zero_le _, by simp, by simp, by simp⟩
theorem Holds.mono {es : Array MapEntry} {clock n m : Nat} {f : Int → Option Value} (h : Holds es clock n f) (hn : n ≤ m) : Holds es clock m f := ⟨h.stamped, Nat.le_trans h.size hn, h.key, h.mem, h.all⟩
theorem Holds.push {es : Array MapEntry} {clock n : Nat} {f : Int → Option Value} (h : Holds es clock n f) {i : Int} (hi : (Lit.int .i64 i).wf = true) (hn : ∀ x ∈ es.toList, x.key ≠ .int .i64 i) (v : Value) :
    Holds (es.push ⟨.int .i64 i, v, clock⟩) (clock + 1) (n + 1) (upd f i v) := by
  refine ⟨stamped_push h.stamped hn, by have := h.size; simp; omega, ?_, ?_, ?_⟩
  · intro x hx
    simp only [Array.toList_push, List.mem_append, List.mem_singleton] at hx
    rcases hx with hx | rfl
    · exact h.key x hx
    · exact ⟨i, rfl, hi⟩
  · intro x hx j hj
    simp only [Array.toList_push, List.mem_append, List.mem_singleton] at hx
    rcases hx with hx | rfl
    · have hji : j ≠ i := fun e => hn x hx (by rw [hj, e])
      rw [upd_other _ _ hji]
      exact h.mem x hx j hj
    · injection hj with _ hj
      rw [← hj, upd_same]
  · intro j u hu
    by_cases e : j = i
    · subst e
      exact ⟨⟨.int .i64 j, v, clock⟩, by simp, rfl⟩
    · rw [upd_other _ _ e] at hu
      obtain ⟨x, hx, hk⟩ := h.all j u hu
      exact ⟨x, by simp [hx], hk⟩
theorem Holds.modify {es : Array MapEntry} {clock n : Nat} {f : Int → Option Value} (h : Holds es clock n f) {i : Int} {j : Nat} {e0 : MapEntry} (hj : es.toList[j]? = some e0) (hk : e0.key = .int .i64 i) (v : Value) (F : MapEntry → MapEntry) (hF : F e0 = ⟨.int .i64 i, v, e0.born⟩) (hb : ∀ e, (F e).born = e.born) :
    Holds (es.modify j F) clock n (upd f i v) := by
  have hje : es[j]? = some e0 := by simpa using hj
  have hlist : (es.modify j F).toList = es.toList.set j ⟨.int .i64 i, v, e0.born⟩ := by rw [Array.toList_modify, modify_eq_set _ _ _ _ hj, hF]
  have hjl : j < es.toList.length := (List.getElem?_eq_some_iff.1 hj).1
  have who : ∀ x ∈ es.toList.set j ⟨.int .i64 i, v, e0.born⟩, x = ⟨.int .i64 i, v, e0.born⟩ ∨ (x ∈ es.toList ∧ x.key ≠ .int .i64 i) := by
    intro x hx
    obtain ⟨m, hm, ex⟩ := List.getElem_of_mem hx
    rw [List.getElem_set] at ex
    split at ex
    · exact .inl ex.symm
    · rename_i hne
      have hm' : m < es.toList.length := by simpa using hm
      refine .inr ⟨ex ▸ List.getElem_mem hm', ?_⟩
      rw [← hk]
      exact h.other (by rw [List.getElem?_eq_getElem hm', ex]) hj (fun e => hne e.symm)
  refine ⟨stamped_modify h.stamped _ _ (fun e _ => hb e) (fun e _ he => ?_), by simpa using h.size, ?_, ?_, ?_⟩
  · rw [hje] at he
    cases he
    rw [hF, hk]
  · intro x hx
    rw [hlist] at hx
    rcases who x hx with rfl | ⟨hx, _⟩
    · obtain ⟨i', h1, h2⟩ := h.key e0 (List.mem_of_getElem? hj)
      rw [hk] at h1
      injection h1 with _ h1
      exact ⟨i, rfl, by rw [h1]; exact h2⟩
    · exact h.key x hx
  · intro x hx m hm
    rw [hlist] at hx
    rcases who x hx with rfl | ⟨hx, hne⟩
    · injection hm with _ hm
      rw [← hm, upd_same]
    · have hmi : m ≠ i := fun e => hne (by rw [hm, e])
      rw [upd_other _ _ hmi]
      exact h.mem x hx m hm
  · intro m u hu
    rw [hlist]
    by_cases e : m = i
    · subst e
      exact ⟨⟨.int .i64 m, v, e0.born⟩, List.mem_iff_getElem.2 ⟨j, by simpa using hjl, by simp⟩, rfl⟩
    · rw [upd_other _ _ e] at hu
      obtain ⟨x, hx, hxk⟩ := h.all m u hu
      obtain ⟨a, ha, rfl⟩ := List.getElem_of_mem hx
      have haj : j ≠ a := by
        rintro rfl
        have : es.toList[j] = e0 := Option.some.inj ((List.getElem?_eq_getElem ha).symm.trans hj)
        rw [this, hk] at hxk
        injection hxk with _ hxk
        exact e hxk.symm
      exact ⟨es.toList[a], List.mem_iff_getElem.2 ⟨a, by simpa using ha, by rw [List.getElem_set_ne haj]⟩, hxk⟩
theorem Holds.keys {P : Program} {k : TypeId} (hk : P.underlying k = some (.int .i64)) {es : Array MapEntry} {clock n : Nat} {f : Int → Option Value} (h : Holds es clock n f) : ∀ x ∈ es.toList, ∃ l, keyOf P k x.key = some l := by
  intro x hx
  obtain ⟨i, h1, h2⟩ := h.key x hx
  exact ⟨_, by rw [h1]; exact keyOf_int_mk hk h2⟩
/-- A map has at least as many entries as different keys are known of it. -/
theorem Holds.count {es : Array MapEntry} {clock n : Nat} {f : Int → Option Value} (h : Holds es clock n f) (l : List Int) (hd : l.Nodup) (hl : ∀ i ∈ l, (f i).isSome = true) : l.length ≤ es.size := by
  have hsub : ∀ v ∈ l.map (Value.int .i64), v ∈ es.toList.map (·.key) := by
    intro v hv
    obtain ⟨i, hi, rfl⟩ := List.mem_map.1 hv
    obtain ⟨u, hu⟩ := Option.isSome_iff_exists.1 (hl i hi)
    obtain ⟨x, hx, hk⟩ := h.all i u hu
    exact List.mem_map.2 ⟨x, hx, hk⟩
  have hnd : (l.map (Value.int .i64)).Nodup := by
    rw [List.Nodup, List.pairwise_map]
    exact hd.imp (fun {a b} hab e => hab (by injection e))
  have hle : ∀ (a b : List Value), a.Nodup → (∀ v ∈ a, v ∈ b) → a.length ≤ b.length := by
    intro a
    induction a with
    | nil => intro b _ _; simp
    | cons x a ih =>
      intro b hn hs
      obtain ⟨hx, hn⟩ := List.nodup_cons.1 hn
      obtain ⟨b1, b2, rfl⟩ := List.append_of_mem (hs x (by simp))
      have := ih (b1 ++ b2) hn (fun v hv => by
        have h1 := hs v (by simp [hv])
        simp only [List.mem_append, List.mem_cons] at h1 ⊢
        rcases h1 with h1 | rfl | h1
        · exact .inl h1
        · exact absurd hv hx
        · exact .inr h1)
      simp only [List.length_append, List.length_cons] at this ⊢
      omega
  have := hle _ _ hnd hsub
  simpa using this

section
variable {P : Program} {k t e : TypeId} {w w' : World} {b n : Nat} {f : Int → Option Value}
theorem Mp.lt (h : Mp w b n f) : b < w.heap.size := by
  obtain ⟨es, clock, hb, _⟩ := h
  exact (Array.getElem?_eq_some_iff.1 hb).1
theorem Mp.same (h : Mp w b n f) (hb : w'.heap[b]? = w.heap[b]?) : Mp w' b n f := by
  obtain ⟨es, clock, h1, h2⟩ := h
  exact ⟨es, clock, hb.trans h1, h2⟩
theorem Mp.kept (h : Mp w b n f) (hb : Below w.heap.size w w') : Mp w' b n f := h.same (hb.block b h.lt)
theorem Mp.fr (h : Mp w b n f) {S : Nat → Prop} (k : Fr S w w') (hn : ¬ S b) : Mp w' b n f := h.same (k.block b h.lt hn)
theorem Mp.mono (h : Mp w b n f) {m : Nat} (hn : n ≤ m) : Mp w b m f := by
  obtain ⟨es, clock, h1, h2⟩ := h
  exact ⟨es, clock, h1, h2.mono hn⟩
theorem Mp.new (w : World) : Mp (w.alloc (.map #[] 0)) w.heap.size 0 (fun _ => none) := ⟨#[], 0, (MapKept.heap_alloc w _).1, Holds.empty 0 0⟩
theorem Mp.count (h : Mp w b n f) (ht : P.underlying t = some (.map k e)) (ty : TypeId) : ∃ s : Nat, (Builtin.len_ #[t] ty #[.map (some b)]).run P w = .ok (.int .i64 s) w ∧ s ≤ n ∧ ∀ l : List Int, l.Nodup → (∀ i ∈ l, (f i).isSome = true) → l.length ≤ s := by
  obtain ⟨es, clock, hb, H⟩ := h
  exact ⟨es.size, by simp [Builtin.len_, run_underlying ht, MapKept.run_getObj_map hb, goInt, Result.andThen], H.size, fun l => H.count l⟩
/-- A look at a map. -/
theorem Mp.look (h : Mp w b n f) (hk : P.underlying k = some (.int .i64)) (ht : P.underlying t = some (.map k e)) {z : Value} (hz : (zeroValue e).run P w = .ok z w) (i : Int) (hi : (Lit.int .i64 i).wf = true) (c : Bool) :
    (Instr.lookup t (.map (some b)) (.int .i64 i) c).run P w = .ok (if c then .tuple #[(f i).getD z, .bool (f i).isSome] else (f i).getD z) w := by
  obtain ⟨es, clock, hb, H⟩ := h
  have K := int_keyed hk
  have hkey := keyOf_int_mk hk hi
  rcases K.find w hkey es.toList (H.keys hk) with ⟨h1, h2⟩ | ⟨j, e0, h1, h2, h3⟩
  · rw [H.none h2]
    simp [Instr.lookup, run_underlying ht, MapKept.run_getObj_map hb, K.check w _ hkey, h1, hz, Result.andThen]
  · rw [H.mem e0 (List.mem_of_getElem? h2) i h3]
    simp [Instr.lookup, run_underlying ht, MapKept.run_getObj_map hb, K.check w _ hkey, h1, Result.andThen]
theorem setBlock_fr {es es' : Array MapEntry} {clock clock' : Nat} (hb : w.heap[b]? = some (.map es clock)) : Fr (fun x => x = b) w (setBlock w b (.map es' clock')) :=
  ⟨rfl, rfl, rfl, by simp [setBlock], fun i _ hi => heap_setBlock_other hb _ hi⟩
/-- A store into a map. -/
theorem Mp.put (h : Mp w b n f) (hk : P.underlying k = some (.int .i64)) (ht : P.underlying t = some (.map k e)) (i : Int) (hi : (Lit.int .i64 i).wf = true) (v : Value) :
    ∃ w', (Instr.mapUpdate t (.map (some b)) (.int .i64 i) v).run P w = .ok () w' ∧ Mp w' b (n + 1) (upd f i v) ∧ Fr (fun x => x = b) w w' := by
  obtain ⟨es, clock, hb, H⟩ := h
  have K := int_keyed hk
  have hkey := keyOf_int_mk hk hi
  rcases K.find w hkey es.toList (H.keys hk) with ⟨h1, h2⟩ | ⟨j, e0, h1, h2, h3⟩
  · refine ⟨setBlock w b (.map (es.push ⟨.int .i64 i, v, clock⟩) (clock + 1)), ?_, ⟨_, _, heap_setBlock_same hb _, H.push hi h2 v⟩, setBlock_fr hb⟩
    simp [Instr.mapUpdate, run_underlying ht, MapKept.run_getObj_map hb, K.check w false hkey, h1, MapKept.run_setObj_map _ hb, Result.andThen, setBlock]
  · have hj : es[j]? = some e0 := by simpa using h2
    refine ⟨setBlock w b (.map (es.modify j (fun e' => { e' with key := .int .i64 i, val := v })) clock), ?_, ⟨_, _, heap_setBlock_same hb _, (H.modify h2 h3 v (fun e' => { e' with key := .int .i64 i, val := v }) rfl (fun _ => rfl)).mono (Nat.le_succ n)⟩, setBlock_fr hb⟩
    simp [Instr.mapUpdate, run_underlying ht, MapKept.run_getObj_map hb, K.check w false hkey, h1, hj, h3, K.stays w hkey, MapKept.run_setObj_map _ hb, Result.andThen, setBlock]
/-- The entry at i has been laid, its stamp is st, whatever it holds. -/
def Laid (w : World) (b n st : Nat) (i : Int) (f : Int → Option Value) : Prop := ∃ (es : Array MapEntry) (clock : Nat) (u : Value) (j : Nat) (e0 : MapEntry), w.heap[b]? = some (.map es clock) ∧ Holds es clock n (upd f i u) ∧ es.toList[j]? = some e0 ∧ e0.key = .int .i64 i ∧ e0.born = st
theorem Laid.lt {st : Nat} {i : Int} (h : Laid w b n st i f) : b < w.heap.size := by
  obtain ⟨es, clock, _, _, _, hb, _⟩ := h
  exact (Array.getElem?_eq_some_iff.1 hb).1
theorem Laid.same {st : Nat} {i : Int} (h : Laid w b n st i f) (hb : w'.heap[b]? = w.heap[b]?) : Laid w' b n st i f := by
  obtain ⟨es, clock, u, j, e0, h1, h2⟩ := h
  exact ⟨es, clock, u, j, e0, hb.trans h1, h2⟩
theorem upd_upd {α : Type} (f : Int → Option α) (i : Int) (u v : α) : upd (upd f i u) i v = upd f i v := by
  funext j
  by_cases h : j = i
  · subst h; rw [upd_same, upd_same]
  · rw [upd_other _ _ h, upd_other _ _ h, upd_other _ _ h]
theorem upd_id {α : Type} (f : Int → Option α) (i : Int) (u : α) (h : f i = some u) : upd f i u = f := by
  funext j
  by_cases e : j = i
  · subst e; rw [upd_same, h]
  · rw [upd_other _ _ e]
/-- The entry for 'm[k] = ..', ahead of its store. -/
theorem Mp.entry (h : Mp w b n f) (hk : P.underlying k = some (.int .i64)) (ht : P.underlying t = some (.map k e)) {z : Value} (hz : ∀ u : World, (zeroValue e).run P u = .ok z u) (i : Int) (hi : (Lit.int .i64 i).wf = true) :
    ∃ (v0 : Value) (st : Nat) (w' : World), (Instr.mapEntry t (.map (some b)) (.int .i64 i)).run P w = .ok (.tuple #[v0, goInt st]) w' ∧ Laid w' b (n + 1) st i f ∧ Fr (fun x => x = b) w w' := by
  obtain ⟨es, clock, hb, H⟩ := h
  have K := int_keyed hk
  have hkey := keyOf_int_mk hk hi
  rcases K.find w hkey es.toList (H.keys hk) with ⟨h1, h2⟩ | ⟨j, e0, h1, h2, h3⟩
  · refine ⟨z, clock, setBlock w b (.map (es.push ⟨.int .i64 i, z, clock⟩) (clock + 1)), ?_, ⟨_, _, z, es.size, ⟨.int .i64 i, z, clock⟩, heap_setBlock_same hb _, H.push hi h2 z, by simp, rfl, rfl⟩, setBlock_fr hb⟩
    simp [Instr.mapEntry, run_underlying ht, MapKept.run_getObj_map hb, K.check w false hkey, h1, hz, MapKept.run_setObj_map _ hb, Result.andThen, setBlock]
  · have hj : es[j]? = some e0 := by simpa using h2
    have hsame : es.modify j (fun e => { e with key := .int .i64 i }) = es := by
      apply Array.ext'
      rw [Array.toList_modify, modify_eq_set _ _ _ _ h2]
      have : ({ e0 with key := .int .i64 i } : MapEntry) = e0 := by rw [← h3]
      rw [this]
      exact WideElems.set_self _ _ _ h2
    refine ⟨e0.val, e0.born, setBlock w b (.map es clock), ?_, ⟨es, clock, e0.val, j, e0, heap_setBlock_same hb _, ?_, h2, h3, rfl⟩, setBlock_fr hb⟩
    · simp [Instr.mapEntry, run_underlying ht, MapKept.run_getObj_map hb, K.check w false hkey, h1, hj, h3, K.stays w hkey, hsame, MapKept.run_setObj_map _ hb, Result.andThen, setBlock]
    · rw [upd_id f i e0.val (H.mem e0 (List.mem_of_getElem? h2) i h3)]
      exact H.mono (Nat.le_succ n)
/-- .. and its store. -/
theorem Laid.store {st : Nat} {i : Int} (h : Laid w b n st i f) (t : TypeId) (v : Value) :
    ∃ w', (Instr.entryStore t (.map (some b)) (goInt st) v).run P w = .ok () w' ∧ Mp w' b n (upd f i v) ∧ Fr (fun x => x = b) w w' := by
  obtain ⟨es, clock, u, j, e0, hb, H, hj, hk, rfl⟩ := h
  have hidx : es.findIdx? (fun e => ((e.born : Nat) : Int) == ((e0.born : Nat) : Int)) = some j := by
    rw [WideElems.findIdx_arr]
    exact WideElems.findIdx_born H.stamped.2.1 hj
  refine ⟨setBlock w b (.map (es.modify j fun e => { e with val := v }) clock), ?_, ⟨_, _, heap_setBlock_same hb _, ?_⟩, setBlock_fr hb⟩
  · simp [Instr.entryStore, MapKept.run_getObj_map hb, asInt, asIntOf, goInt, hidx, MapKept.run_setObj_map _ hb, Result.andThen, setBlock]
  · rw [← upd_upd f i u v]
    exact H.modify hj hk v (fun e => { e with val := v }) (by rw [← hk]) (fun _ => rfl)
/-- A copy of a map's block. -/
theorem Mp.copied (h : Mp w b n f) {es : Array MapEntry} {clock : Nat} (hb : w.heap[b]? = some (.map es clock)) {c : Nat} (hc : w'.heap[c]? = some (.map es clock)) : Mp w' c n f := by
  obtain ⟨es', clock', h1, h2⟩ := h
  rw [hb] at h1
  injection h1 with h1
  injection h1 with e1 e2
  subst e1 e2
  exact ⟨es, clock, hc, h2⟩
theorem Mp.raw (h : Mp w b n f) : ∃ es clock, w.heap[b]? = some (.map es clock) := by obtain ⟨es, clock, h, _⟩ := h; exact ⟨es, clock, h⟩
end
/-! ### at the operation -/
theorem step_entry {P : Program} {k t e : TypeId} {w : World} {b n : Nat} {f : Int → Option Value} {ops : Array Oper} {o : Oper} {a : Act} {K : Act → World → Prop} {Q : Exit → Act → World → Prop} {E : Prop} (hgd : o.guard = none) (m x : Operand)
    (ho : o.op = .mapEntry t m x) (hm : a.eval m = .map (some b)) (i : Int) (hx : a.eval x = .int .i64 i) (h : Mp w b n f) (hk : P.underlying k = some (.int .i64)) (ht : P.underlying t = some (.map k e)) {z : Value} (hz : ∀ u : World, (zeroValue e).run P u = .ok z u) (hi : (Lit.int .i64 i).wf = true)
    (hK : ∀ (v0 : Value) (st : Nat) (w' : World), Laid w' b (n + 1) st i f → Fr (fun x => x = b) w w' → K (a.put o.dst (.tuple #[v0, goInt st])) w') :
    if Region.wanted o (yielded ops a.tmps) = true then Oper.wp P o a w K Q else E := by
  have hw : Region.wanted o (yielded ops a.tmps) = true := by simp [Region.wanted, hgd]
  rw [if_pos hw]
  obtain ⟨v0, st, w', hrun, h1, h2⟩ := h.entry hk ht hz i hi
  unfold Oper.wp execOp
  simp only [ho, hm, hx, Sem.run_bind, Sem.run_pure, hrun, Result.andThen_ok]
  exact hK v0 st w' h1 h2
theorem step_estore {P : Program} {t : TypeId} {w : World} {b n st : Nat} {i : Int} {f : Int → Option Value} {ops : Array Oper} {o : Oper} {a : Act} {K : Act → World → Prop} {Q : Exit → Act → World → Prop} {E : Prop} (hgd : o.guard = none) (m s x : Operand)
    (ho : o.op = .entryStore t m s x) (hm : a.eval m = .map (some b)) (hs : a.eval s = goInt st) (v : Value) (hx : a.eval x = v) (h : Laid w b n st i f)
    (hK : ∀ w' : World, Mp w' b n (upd f i v) → Fr (fun x => x = b) w w' → K (a.put o.dst undef) w') :
    if Region.wanted o (yielded ops a.tmps) = true then Oper.wp P o a w K Q else E := by
  have hw : Region.wanted o (yielded ops a.tmps) = true := by simp [Region.wanted, hgd]
  rw [if_pos hw]
  obtain ⟨w', hrun, h1, h2⟩ := h.store (P := P) t v
  unfold Oper.wp execOp
  simp only [ho, hm, hs, hx, Sem.run_bind, Sem.run_pure, hrun, Result.andThen_ok]
  exact hK w' h1 h2
theorem wpList_mput {P : Program} {k t e : TypeId} {w : World} {b n : Nat} {f : Int → Option Value} {ops : Array Oper} {rest : List Oper} {o : Oper} {a : Act} {Q : Exit → Act → World → Prop} (hgd : o.guard = none) (m x y : Operand)
    (ho : o.op = .mapUpdate t m x y) (hm : a.eval m = .map (some b)) (i : Int) (hx : a.eval x = .int .i64 i) (v : Value) (hy : a.eval y = v) (h : Mp w b n f) (hk : P.underlying k = some (.int .i64)) (ht : P.underlying t = some (.map k e)) (hi : (Lit.int .i64 i).wf = true)
    (hK : ∀ w' : World, Mp w' b (n + 1) (upd f i v) → Fr (fun x => x = b) w w' → wpList P ops Q rest (a.put o.dst undef) w') : wpList P ops Q (o :: rest) a w := by
  refine wpList_plain hgd fun K' hK' => ?_
  obtain ⟨w', hrun, h1, h2⟩ := h.put hk ht i hi v
  unfold Oper.wp
  simp [execOp, ho, hm, hx, hy, hrun, Result.andThen]
  exact hK' _ _ (hK w' h1 h2)
end Go.Proofs.Ytbkkplednfdfdaa

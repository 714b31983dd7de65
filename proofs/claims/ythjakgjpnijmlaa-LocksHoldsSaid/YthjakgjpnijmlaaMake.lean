/- New and Copy: locks that are made. -/
import Derived.Test.YthjakgjpnijmlaaUnlock
namespace Go.Proofs.Ythjakgjpnijmlaa
open Go.RowKit

theorem sl_info : (Try.prog.info? 40).map (fun i => (i.zero, i.size, i.bytes)) = some (some (.slice none 0 0), 1, 24) := by kernel_rfl

/-- Locks that are new. -/
def NewW (w : World) (L : Nat) (Q : List (List Int)) (w' : World) : Prop := ∃ S : Nat → Prop, LK w' L S Q ∧ Below w.heap.size w w' ∧ ∀ b, S b → w.heap.size ≤ b

theorem new_state (w : World) (n : Nat) (h1 : 1 ≤ n) (h2 : n ≤ 1024) (zs : List Value) (hz : List.replicate n (Value.slice none 0 0) = zs) :
    NewW w (w.heap.size + 1) (List.replicate n []) ((w.alloc (.cells zs.toArray 40)).alloc (.cells #[.slice (some ⟨w.heap.size, 0, none⟩) n n] 54)) := by
  have hl : zs.length = n := by rw [← hz]; simp
  have hB : Below w.heap.size w ((w.alloc (.cells zs.toArray 40)).alloc (.cells #[.slice (some ⟨w.heap.size, 0, none⟩) n n] 54)) := ((Below.refl _ _).alloc (Nat.le_refl _) _).alloc (by simp) _
  have hel : ∀ (i : Nat) (v : Value), zs[i]? = some v → v = .slice none 0 0 := by
    intro i v hv
    rw [← hz] at hv
    have := List.mem_of_getElem? hv
    exact (List.mem_replicate.1 this).2
  refine ⟨fun b => w.heap.size ≤ b ∧ b < w.heap.size + 2, ⟨by simp; omega, by simpa using h2, w.heap.size, n, zs, ?_⟩, hB, fun b hb => hb.1⟩
  refine ⟨?_, ?_, ?_, ?_, ⟨by omega, by omega⟩, ⟨by omega, by omega⟩, ?_, ?_⟩
  · rw [List.length_replicate]
    exact Blk.new' _ 54 _ (by simp)
  · rw [List.length_replicate]
    exact own_built (Blk.alloc (Blk.new w 40 zs) _) (Nat.zero_le _) (by rw [hl, Nat.mul_one]) (by unfold maxLen; omega)
  · intro i v q hv hq
    have e := hel i v hv
    have hq' := List.mem_of_getElem? hq
    have := (List.mem_replicate.1 hq').2
    subst e this
    exact World.ownsRow_nil _ _ _ _
  · intro i j v u k _ hv _ hk
    rw [hel i v hv] at hk
    cases hk
  · intro v hv k hk
    obtain ⟨i, hi, rfl⟩ := List.mem_iff_getElem.1 hv
    rw [hel i _ (List.getElem?_eq_getElem hi)] at hk
    cases hk
  · intro b hb
    simpa using hb.2

def RetNew (w : World) (n : Nat) (e : Ending) (w' : World) : Prop := ∃ L, e = .returned (.tuple #[.pointer (some ⟨L, 0, none⟩), .int .i64 0]) ∧ NewW w L (List.replicate n []) w'
theorem new_yes (n : Nat) (w : World) (h1 : 1 ≤ n) (h2 : n ≤ 1024) : Calls Try.prog 9 #[.int .i64 n] w (RetNew w n) := by
  have hmk := fun w => run_mk (P := Try.prog) 49 40 (.slice none 0 0) 24 Try.underlying49 sl_info rfl .i64 .i64 n (by omega) (by omega) (by omega) w
  obtain ⟨zs, hz⟩ : ∃ zs, List.replicate n (Value.slice none 0 0) = zs := ⟨_, rfl⟩
  rw [Int.toNat_natCast, hz] at hmk
  have HP := Lib.hid (new_state w n h1 h2 zs hz)
  have hn1 : (1 : Int) ≤ (n : Int) := by omega
  have hn2 : (n : Int) ≤ 1024 := by omega
  clear hz
  go_enter Try.func9, Try.ntmps9
  go_wp2_with fail
  go_ret2
  exact ⟨_, rfl, HP.out⟩
theorem new_no (s : Int) (w : World) (h : ¬ (1 ≤ s ∧ s ≤ 1024)) : Calls Try.prog 9 #[.int .i64 s] w fun e w' => e = .returned (.tuple #[.pointer none, .int .i64 2]) ∧ w = w' := by
  by_cases h1 : s < 1
  · clear h
    go_enter Try.func9, Try.ntmps9
    go_wp2_with fail
    go_ret2
    exact ⟨rfl, rfl⟩
  · have h2 : 1024 < s := by omega
    have h3 : 1 ≤ s := by omega
    clear h h1
    go_enter Try.func9, Try.ntmps9
    go_wp2_with fail
    go_ret2
    exact ⟨rfl, rfl⟩

theorem clone2_any (p : Option Addr) (n c : Nat) (xs : List Value) (w : World) (h : Rd w w.heap.size p xs) (hn : xs.length = n) (hu : ∀ u ∈ xs, u.oneCell' = true) (hl : n ≤ 1000000) :
    Calls Try.prog 37 #[.slice p n c] w (RetOwn w 40 n xs) := by
  rcases p with _ | ad
  · have he := fun w => Lib.run_eql_slice_nil (P := Try.prog) w 49 40 none n c 0 0 Try.underlying49
    have hx : xs = [] := by
      rcases h with h | ⟨b, o, h, _⟩
      · exact h
      · cases h
    subst hx
    simp only [List.length_nil] at hn
    subst hn
    clear h
    go_enter Try.func37, Try.ntmps37
    go_wp2_with fail
    go_ret
    exact ⟨_, rfl, World.ownsRow_nil _ _ _ _, Below.refl _ _⟩
  · have he := fun w => Lib.run_eql_slice_nil (P := Try.prog) w 49 40 (some ad) n c 0 0 Try.underlying49
    have HN := Lib.hid hn
    have HU := Lib.hid hu
    clear hn hu
    go_enter Try.func37, Try.ntmps37
    go_wp2_with (at_builtin; refine wpList_appM rfl (.tmp 5) (.tmp 6) 49 rfl w.heap.size 40 _ 1 24 Try.underlying49 sl_info rfl (by omega) _ 0 [] rfl (own_built (Blk.new w 40 []) (Nat.le_refl _) rfl (by unfold maxLen; omega)) w.heap.size (some ad) n c xs rfl (by rw [HN.out, Nat.mul_one]) (h.below ((Below.refl _ _).alloc (Nat.le_refl _) _)) HU.out (by omega) (by omega) (by simp) ?_; intro v' w' hown hbl _ _)
    go_ret
    rw [Nat.zero_add, List.nil_append] at hown
    exact ⟨_, rfl, hown, ((Below.refl _ _).alloc (Nat.le_refl _) _).trans hbl⟩

/-- While locks are copied: the first k queues are copies. -/
structure CP (w wr : World) (L g c k : Nat) (vs us : List Value) (Q : List (List Int)) : Prop where
  hL : Blk wr L 54 [.slice (some ⟨g, 0, none⟩) Q.length c]
  hg : wr.ownsRow w.heap.size 40 1 (.slice (some ⟨g, 0, none⟩) Q.length c) Q.length us
  old : ∀ j, k ≤ j → us[j]? = vs[j]?
  new : ∀ (j : Nat) (v : Value) (q : List Int), j < k → us[j]? = some v → Q[j]? = some q → wr.ownsRow w.heap.size 3 1 v q.length (ints q)
  dis : ∀ (i j : Nat) (v u : Value) (b : Nat), i < k → j < k → i ≠ j → us[i]? = some v → us[j]? = some u → v.ownBlock = some b → u.ownBlock ≠ some b
  hb : Below w.heap.size w wr
  hLw : w.heap.size ≤ L
section
variable {w wr w2 : World} {L g c k : Nat} {vs us : List Value} {Q : List (List Int)}
theorem CP.ne (h : CP w wr L g c k vs us Q) : L ≠ g := by
  obtain ⟨cur, hc⟩ := own_type h.hg (k := g) rfl
  have h1 := h.hL
  unfold Blk at h1
  exact type_ne h1 hc (by decide)
theorem CP.step (h : CP w wr L g c k vs us Q) (hk : k < Q.length) (hb : Below wr.heap.size wr w2) {v' : Value} (hown : w2.ownsRow wr.heap.size 3 1 v' (Q[k]).length (ints Q[k])) :
    CP w (w2.setCell ⟨g, k, none⟩ v') L g c (k + 1) vs (us.set k v') Q := by
  have hg2 : w2.ownsRow w.heap.size 40 1 (.slice (some ⟨g, 0, none⟩) Q.length c) Q.length us := own_fr h.hg (Fr.of_below hb (fun _ => False)) (fun _ _ h => h)
  obtain ⟨gcur, hgcur⟩ := own_type hg2 (k := g) rfl
  have hv'g : v'.ownBlock ≠ some g := fun e => by
    obtain ⟨cur, hc⟩ := own_type hown e
    exact type_ne hc hgcur (by decide) rfl
  have hgw : w.heap.size ≤ g := (own_lt h.hg g rfl).1
  have hul : us.length = Q.length := by simpa using h.hg.1
  have hsz := h.hb.size
  refine ⟨(h.hL.kept hb).far (p := ⟨g, k, none⟩) h.ne v', own_store hg2 k v', ?_, ?_, ?_, ?_, h.hLw⟩
  · intro j hj
    rw [List.getElem?_set_ne (by omega)]
    exact h.old j (by omega)
  · intro j u q hj hu hq
    by_cases hjk : j = k
    · subst hjk
      rw [List.getElem?_set_self (by rw [hul]; exact hk)] at hu
      rw [List.getElem?_eq_getElem hk] at hq
      injection hu with hu
      injection hq with hq
      subst hu hq
      exact own_mono (own_far hown _ _ hv'g) hsz
    · rw [List.getElem?_set_ne (fun e => hjk e.symm)] at hu
      have ho := h.new j u q (by omega) hu hq
      have ho2 := own_fr ho (Fr.of_below hb (fun _ => False)) (fun _ _ h => h)
      refine own_far ho2 _ _ (fun e => ?_)
      obtain ⟨cur, hc⟩ := own_type ho2 e
      exact type_ne hc hgcur (by decide) rfl
  · intro i j x y b hi hj hij hx hy hxb
    have lt : ∀ (m : Nat) (z : Value) (hm : m < k), us[m]? = some z → ∀ b, z.ownBlock = some b → b < wr.heap.size := by
      intro m z hm hz b hb'
      have hmq : m < Q.length := by omega
      exact own_block_lt (h.new m z Q[m] hm hz (List.getElem?_eq_getElem hmq)) hb'
    by_cases hik : i = k
    · subst hik
      rw [List.getElem?_set_self (by rw [hul]; exact hk)] at hx
      injection hx with hx
      subst hx
      rw [List.getElem?_set_ne hij] at hy
      intro e
      have h1 := (own_lt hown b hxb).1
      have h2 := lt j y (by omega) hy b e
      omega
    · rw [List.getElem?_set_ne (fun e => hik e.symm)] at hx
      by_cases hjk : j = k
      · subst hjk
        rw [List.getElem?_set_self (by rw [hul]; exact hk)] at hy
        injection hy with hy
        subst hy
        intro e
        have h1 := (own_lt hown b e).1
        have h2 := lt i x (by omega) hx b hxb
        omega
      · rw [List.getElem?_set_ne (fun e => hjk e.symm)] at hy
        exact h.dis i j x y b (by omega) (by omega) hij hx hy hxb
  · exact (h.hb.trans (hb.mono hsz)).setCell hgw _
theorem CP.done (h : CP w wr L g c k vs us Q) (hk : k = Q.length) (h0 : 0 < Q.length ∧ Q.length ≤ 1024) : NewW w L Q wr := by
  have hul : us.length = Q.length := by simpa using h.hg.1
  have hgw := own_lt h.hg g rfl
  refine ⟨fun b => w.heap.size ≤ b ∧ b < wr.heap.size, ⟨h0.1, h0.2, g, c, us, ?_⟩, h.hb, fun b hb => hb.1⟩
  refine ⟨h.hL, own_mono h.hg (Nat.zero_le _), ?_, ?_, ⟨h.hLw, h.hL.lt⟩, hgw, ?_, fun b hb => hb.2⟩
  · intro i v q hv hq
    have hi := (List.getElem?_eq_some_iff.1 hq).1
    exact own_mono (h.new i v q (by omega) hv hq) (Nat.zero_le _)
  · intro i j v u b hij hv hu hb
    have hi := (List.getElem?_eq_some_iff.1 hv).1
    have hj := (List.getElem?_eq_some_iff.1 hu).1
    exact h.dis i j v u b (by omega) (by omega) hij hv hu hb
  · intro v hv b hb
    obtain ⟨i, hi, rfl⟩ := List.mem_iff_getElem.1 hv
    have hiq : i < Q.length := by omega
    exact own_lt (h.new i us[i] Q[i] (by omega) (List.getElem?_eq_getElem hi) (List.getElem?_eq_getElem hiq)) b hb
/-- The cell of the queue that is copied next. -/
theorem CP.at_ (h : CP w wr L g c k vs us Q) {p : Option Addr} {n d : Nat} (hv : vs[k]? = some (.slice p n d)) : wr.cell? ⟨g, k, none⟩ = some (.slice p n d) ∧ wr.frozen? ⟨g, k, none⟩ = false := by
  have h1 := h.old k (Nat.le_refl _)
  rw [hv] at h1
  have hcell := h.hg.cells (g := g) rfl k _ h1
  have hadd : (⟨g, 0, none⟩ : Addr).add k = ⟨g, k, none⟩ := by unfold Addr.add; split <;> simp_all
  rw [hadd] at hcell
  refine ⟨hcell, ?_⟩
  obtain ⟨cur, hc⟩ := own_type h.hg (k := g) rfl
  simp [World.frozen?, hc]
end

def RetCopy (w : World) (Q : List (List Int)) (e : Ending) (w' : World) : Prop := ∃ L, e = .returned (.pointer (some ⟨L, 0, none⟩)) ∧ NewW w L Q w'
set_option maxRecDepth 100000 in
set_option maxHeartbeats 4000000 in
theorem copy_any {w : World} {L : Nat} {S : Nat → Prop} {Q : List (List Int)} (h : LK w L S Q) (hs : ∀ q ∈ Q, q.length ≤ 100000) : Calls Try.prog 23 #[.pointer (some ⟨L, 0, none⟩)] w (RetCopy w Q) := by
  have HN := Lib.hid h
  have HS := Lib.hid hs
  obtain ⟨h0, h1, g, c, vs, hd⟩ := h
  have hc := hd.cell
  have hvs : ∀ u ∈ vs, u.oneCell' = true := by
    intro u hu
    obtain ⟨i, hi, rfl⟩ := List.mem_iff_getElem.1 hu
    have hiq : i < Q.length := by rw [← hd.len]; exact hi
    obtain ⟨p, d, e, _⟩ := own_shape (hd.hv i vs[i] Q[i] (List.getElem?_eq_getElem hi) (List.getElem?_eq_getElem hiq))
    rw [e]; rfl
  have HV := Lib.hid hvs
  clear hs hvs
  go_enter Try.func23, Try.ntmps23
  go_wp2_with fail
  refine (none_any HN.out).mono ?_
  rintro e w' ⟨rfl, rfl⟩
  go_wp2_with fail
  refine (clone2_any _ Q.length c vs w (own_rd hd.hg) hd.len HV.out (by omega)).mono ?_
  rintro e w1 ⟨v, rfl, hown, hb⟩
  obtain ⟨g', c', rfl, _, hlt1⟩ := hown.form h0
  go_upto_region 4 with fail
  generalize hW : (World.alloc _ _) = W
  have hCP : CP w W w1.heap.size g' c' 0 vs vs Q := by
    rw [← hW]
    exact ⟨Blk.new' _ 54 _ rfl, hown.alloc _, fun _ _ => rfl, fun _ _ _ h => by omega, fun _ _ _ _ _ h => by omega, hb.alloc hb.size _, hb.size⟩
  obtain ⟨L', hL'⟩ : ∃ L', w1.heap.size = L' := ⟨_, rfl⟩
  rw [hL'] at hCP ⊢
  clear hW hL' hown hb
  have hcL : W.cell? ⟨L', 0, none⟩ = some (.slice (some ⟨g', 0, none⟩) Q.length c') := hCP.hL.cell 0
  go_wp2_with fail
  go_loopw [20] (fun i wr => ∃ (k : Nat) (us : List Value), k ≤ Q.length ∧ i = .int .i64 k ∧ CP w wr L' g' c' k vs us Q) (fun i _ => Q.length - (intOf i).toNat)
  case atStart => exact ⟨0, vs, Nat.zero_le _, rfl, hCP⟩
  case round =>
    clear hCP hcL
    obtain ⟨k, us, hk, rfl, hCP⟩ := hrel
    have hcL : wr.cell? ⟨L', 0, none⟩ = some (.slice (some ⟨g', 0, none⟩) Q.length c') := hCP.hL.cell 0
    by_cases hlt : k < Q.length
    · obtain ⟨p, d, hv, _, _, hr, hd1, hd2, _⟩ := (hd.kept hCP.hb).at_ hlt
      obtain ⟨hq, hf⟩ := hCP.at_ hv
      have hlg : g' < wr.heap.size := (own_lt hCP.hg g' rfl).2
      have hlq := HS.out Q[k] (List.getElem_mem hlt)
      have hi : (k : Int) < (Q.length : Int) := by omega
      go_upto_region 7 with fail
      refine wp_region_noPanic ?_
      refine wp_region_held_drew (S := fun w' => w'.cell? ⟨L', 0, none⟩ = some (.slice (some ⟨g', 0, none⟩) Q.length c')) (by kernel_rfl) (by simpa using hcL) (fun hHeld => ?_)
      refine wpAnyH_take (i := 0) (oi := ⟨some 25, _, _, _, _, _⟩) (v := ?_) rfl (by kernel_rfl) (by kernel_rfl) (by kernel_rfl) (fun _ _ _ h => h) (Or.inl ⟨by rfl, ?_⟩) hHeld ?_
      rotate_left
      · (intro w hSw; have hSL := hSw; go_simp; try with_reducible rfl)
      try simp only [Act.put, List.setIfInBounds_toArray, List.set_cons_zero, List.set_cons_succ]
      refine wpAnyH_take (i := 1) (oi := ⟨some 26, _, _, _, _, _⟩) (v := ?_) rfl (by kernel_rfl) (by kernel_rfl) (by kernel_rfl) (fun _ _ _ h => h) (Or.inl ⟨by rfl, ?_⟩) hHeld ?_
      rotate_left
      · (intro w hSw; have hSL := hSw; go_simp; try with_reducible rfl)
      try simp only [Act.put, List.setIfInBounds_toArray, List.set_cons_zero, List.set_cons_succ]
      refine wpAnyH_take (i := 2) (oi := ⟨some 27, _, _, _, _, _⟩) (v := ?_) rfl (by kernel_rfl) (by kernel_rfl) (by kernel_rfl) (fun _ _ _ h => h) (Or.inl ⟨by rfl, ?_⟩) hHeld ?_
      rotate_left
      · (intro w hSw; have hSL := hSw; go_simp; try with_reducible rfl)
      try simp only [Act.put, List.setIfInBounds_toArray, List.set_cons_zero, List.set_cons_succ]
      refine wpAnyH_take (i := 3) (oi := ⟨some 28, _, _, _, _, _⟩) (v := ?_) rfl (by kernel_rfl) (by kernel_rfl) (by kernel_rfl) (fun _ _ _ h => h) (Or.inl ⟨by rfl, ?_⟩) hHeld ?_
      rotate_left
      · (intro w hSw; have hSL := hSw; go_simp; try with_reducible rfl)
      try simp only [Act.put, List.setIfInBounds_toArray, List.set_cons_zero, List.set_cons_succ]
      refine wpAnyH_take (i := 4) (oi := ⟨some 29, _, _, _, _, _⟩) (v := ?_) rfl (by kernel_rfl) (by kernel_rfl) (by kernel_rfl) (fun _ _ _ h => h) (Or.inl ⟨by rfl, ?_⟩) hHeld ?_
      rotate_left
      · (intro w hSw; have hSL := hSw; go_simp; try with_reducible rfl)
      try simp only [Act.put, List.setIfInBounds_toArray, List.set_cons_zero, List.set_cons_succ]
      refine wpAnyH_take (i := 5) (oi := ⟨some 30, _, _, _, _, _⟩) (v := ?_) rfl (by kernel_rfl) (by kernel_rfl) (by kernel_rfl) (fun _ _ _ h => h) (Or.inl ⟨by rfl, ?_⟩) hHeld ?_
      rotate_left
      · (intro w hSw; have hSL := hSw; go_simp; try with_reducible rfl)
      try simp only [Act.put, List.setIfInBounds_toArray, List.set_cons_zero, List.set_cons_succ]
      refine wpAnyH_ready (rs := [6]) (by kernel_rfl) (by simp) ?_
      refine AllReadyH.cons (o := ⟨some 31, _, _, _, _, _⟩) rfl (fun K hK => ?_) AllReadyH.nil
      go_simp
      (refine (clone_any _ (Q[k]).length _ (ints Q[k]) _ (by exact hr) (ints_len _) (ints_one _) (by omega)).mono ?_; rintro e w2 ⟨v', rfl, hown2, hb2⟩)
      refine hK.out _ _ ((hb2.cell (p := ⟨L', 0, none⟩) hCP.hL.lt).trans hcL) (fun hHeld => ?_)
      clear hK K
      try simp only [Act.put, List.setIfInBounds_toArray, List.set_cons_zero, List.set_cons_succ]
      refine wpAnyH_take (i := 7) (oi := ⟨some 32, _, _, _, _, _⟩) (v := ?_) rfl (by kernel_rfl) (by kernel_rfl) (by kernel_rfl) (fun _ _ _ h => h) (Or.inl ⟨by rfl, ?_⟩) hHeld ?_
      rotate_left
      · (intro w hSw; have hSL := hSw; go_simp; try with_reducible rfl)
      try simp only [Act.put, List.setIfInBounds_toArray, List.set_cons_zero, List.set_cons_succ]
      have hb2' : Below wr.heap.size wr w2 := ((Below.refl _ _).drew).trans hb2
      have hA := hCP.step hlt hb2' (own_mono hown2 (Nat.le_refl _))
      obtain ⟨p2, d2, rfl, _, _⟩ := own_shape hown2
      have hcell2 : w2.cell? ⟨g', k, none⟩ = some (.slice p (Q[k]).length d) := (hb2'.cell (p := ⟨g', k, none⟩) hlg).trans hq
      have hfr2 : w2.frozen? ⟨g', k, none⟩ = false := (hb2'.frozen (p := ⟨g', k, none⟩) hlg).trans hf
      refine wpAnyH_ready (rs := [8]) (by kernel_rfl) (by simp) ?_
      refine AllReadyH.cons (o := ⟨none, _, _, _, _, _⟩) rfl (fun K hK => ?_) AllReadyH.nil
      go_simp
      refine hK.out _ _ (lock_cell_set ((hb2'.cell (p := ⟨L', 0, none⟩) hCP.hL.lt).trans hcL) hCP.ne) (fun hHeld => ?_)
      clear hK K
      try simp only [Act.put, List.setIfInBounds_toArray, List.set_cons_zero, List.set_cons_succ]
      refine wpAnyH_done (by kernel_rfl) ?_ _
      refine NoPanic.normal ?_
      go_wp2_with fail
      go_roundw
      case rel => exact ⟨k + 1, _, by omega, by go_num, hA⟩
      case measure => simp [intOf]; omega
    · have HP := Lib.hid (hCP.done (by omega) ⟨h0, h1⟩)
      clear hCP
      go_wp2_with fail
      go_ret
      exact ⟨L', rfl, HP.out⟩
end Go.Proofs.Ythjakgjpnijmlaa

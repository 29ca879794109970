/- A program logic over data: append onto a row of the frame's own. -/
import Derived.Test.YtkbhchlecokpiaaFwCa
import Derived.Lib.Strings
set_option linter.unusedVariables false
set_option linter.unusedSimpArgs false
/-! ## FwG: A program logic over data: append onto a row of the frame's own. -/
namespace Fw
open Go Go.RowKit
set_option linter.unusedVariables false
set_option linter.unusedSimpArgs false
set_option linter.unusedSectionVars false

section
variable {P : Program} {L : Nat → Option TI} {N : Nat} {w0 : World} {ok0 S0 : Nat → Prop} {T : Nat → Option D} {H : Nat → Option O} {β : Nat → Option Nat} {ok : Nat → Prop} {a : Act} {w w' : World}
  {o : Oper} {Q : Exit → Act → World → Prop} {K : Act → World → Prop}

/-- a slice value, and the cells that it shows -/
def Shows (w : World) (v : Value) (n size : Nat) (e : TypeId) (xs : List Value) : Prop :=
  (v = .slice none 0 0 ∧ n = 0 ∧ xs = []) ∨ ∃ g cap cur, v = .slice (some ⟨g, 0, none⟩) n cap ∧ w.heap[g]? = some (.cells cur e (0, 0)) ∧ n ≤ cap ∧ cap ≤ maxLen ∧ cur.size = cap * size ∧ cur.toList.take (n * size) = xs

/-- what an append comes to -/
inductive Came (w : World) (v : Value) (n m size : Nat) (e : TypeId) (xs vs : List Value) : Value → World → Prop
  | same (h : m = 0) (h' : vs = []) : Came w v n m size e xs vs v w
  | room {g cap : Nat} {cur cur' : Array Value} {w' : World} (hv : v = .slice (some ⟨g, 0, none⟩) n cap) (hg : w.heap[g]? = some (.cells cur e (0, 0))) (hr : n + m ≤ cap) (ht : Turned g w w') (hg' : w'.heap[g]? = some (.cells cur' e (0, 0)))
      (hs : cur'.size = cap * size) (hx : cur'.toList.take ((n + m) * size) = xs ++ vs) : Came w v n m size e xs vs (.slice (some ⟨g, 0, none⟩) (n + m) cap) w'
  | new {cap : Nat} {cur : Array Value} (hr : n + m ≤ cap) (hm : cap ≤ maxLen) (hs : cur.size = cap * size) (hx : cur.toList.take ((n + m) * size) = xs ++ vs) :
      Came w v n m size e xs vs (.slice (some ⟨w.heap.size, 0, none⟩) (n + m) cap) (w.drew.alloc (.cells cur e))

theorem run_append_src_nil (t ty e : TypeId) (i : TypeInfo) (ht : P.underlying t = some (.slice e)) (hi : P.info? e = some i) {v : Value} {n : Nat} {xs : List Value} (hv : Shows w v n i.size e xs) (c : Nat) :
    (Builtin.append_ #[t, t] ty #[v, .slice none 0 c]).run P w = .ok v w := by
  rcases hv with ⟨rfl, rfl, rfl⟩ | ⟨g, cap, cur, rfl, _, hnc, _⟩
  · simp [Builtin.append_, run_underlying ht, Go.sizeOf, typeInfo, hi, Builtin.lenOf, Builtin.firstCells]
  · simp [Builtin.append_, run_underlying ht, Go.sizeOf, typeInfo, hi, Builtin.lenOf, Builtin.firstCells, hnc, storeCells]

theorem run_append_all (t ty e : TypeId) (i : TypeInfo) (z : Value) (ht : P.underlying t = some (.slice e)) (hi : P.info? e = some i) (hz : i.zero = some z) (hzs : z.cells.size = i.size) (hsz : 0 < i.size)
    {v : Value} {n : Nat} {xs : List Value} (hv : Shows w v n i.size e xs) {A : Option Addr} {m c : Nat} {vs : List Value} (hl : vs.length = m * i.size) (h0 : A = none → m = 0)
    (hvs : ∀ ad, A = some ad → ∀ j u, vs[j]? = some u → w.cell? (ad.add j) = some u) (h1 : ∀ u ∈ vs, u.oneCell' = true) (h63 : n + m ≤ maxLen) (hb : (n + m) * i.bytes ≤ 140737488355328) :
    ∃ v' w', (Builtin.append_ #[t, t] ty #[v, .slice A m c]).run P w = .ok v' w' ∧ Came w v n m i.size e xs vs v' w' := by
  have hsmall : n + m ≤ 9223372036854775807 := by simp only [maxLen] at h63; omega
  cases A with
  | none =>
    have hm := h0 rfl
    subst hm
    have hn : vs = [] := List.eq_nil_of_length_eq_zero (by simpa using hl)
    exact ⟨v, w, run_append_src_nil t ty e i ht hi hv c, .same rfl hn⟩
  | some ad =>
    have hnews := hvs ad rfl
    have hxl : xs.length = n * i.size := by
      rcases hv with ⟨_, rfl, rfl⟩ | ⟨g, cap, cur, _, _, hnc, _, hcs, rfl⟩
      · simp
      · rw [List.length_take]
        have : n * i.size ≤ cap * i.size := Nat.mul_le_mul_right _ hnc
        simp; omega
    have hlen : (xs ++ vs).length = (n + m) * i.size := by rw [List.length_append, hxl, hl, Nat.add_mul]
    have grown : ∀ (old : Nat), old < n + m → Came w v n m i.size e xs vs (.slice (some ⟨w.heap.size, 0, none⟩) (n + m) (grownCap w (n + m) old e)) (w.drew.alloc (.cells (xs.toArray ++ vs.toArray ++ Builtin.zeroCells z.cells (grownCap w (n + m) old e - (n + m))) e)) := by
      intro old ho
      have hge := grownCap_ge w (n + m) old e
      have hcm : grownCap w (n + m) old e ≤ maxLen := grownCap_le_maxLen w (n + m) old e h63
      refine .new hge hcm ?_ ?_
      · simp only [Array.size_append, List.size_toArray, size_zeroCells, hzs, hxl, hl, ← Nat.add_mul]
        congr 1
        omega
      · simp only [Array.toList_append, List.append_assoc]
        rw [← List.append_assoc, ← hlen]
        exact List.take_left
    rcases hv with ⟨rfl, rfl, rfl⟩ | ⟨g, cap, cur, rfl, hg, hnc, hcm, hcs, htake⟩
    · by_cases hm : m = 0
      · subst hm
        have hn : vs = [] := List.eq_nil_of_length_eq_zero (by simpa using hl)
        subst hn
        refine ⟨.slice none 0 0, w, ?_, .same rfl rfl⟩
        simp [Builtin.append_, run_underlying ht, Go.sizeOf, typeInfo, hi, Builtin.lenOf, Builtin.firstCells, loadCells, loadCellsFrom]
      · have hr := run_append_nil (P := P) w t ty e i z ht hi hz ad m c vs hl hnews (by omega) (by omega) (by have hb := hb; simp only [Nat.zero_add] at hb; omega)
        have hgr := grown 0 (by omega)
        simp only [Nat.zero_add, List.nil_append, Array.empty_append] at hgr
        exact ⟨_, _, hr, hgr⟩
    · by_cases hroom : n + m ≤ cap
      · have hfit : n * i.size + vs.length ≤ cur.size := by rw [hl, hcs, ← Nat.add_mul]; exact Nat.mul_le_mul_right _ hroom
        have hr := run_append_room (P := P) w t ty e i ht hi g n cap cur hg ad m c vs hl hnews h1 hroom hfit
        have hsz' : (cur.toList.take (n * i.size) ++ vs ++ cur.toList.drop (n * i.size + vs.length)).toArray.size = cur.size := by
          simp only [List.size_toArray, List.length_append, List.length_take, List.length_drop, Array.length_toList]
          omega
        refine ⟨_, _, hr, .room rfl hg hroom ⟨rfl, rfl, rfl, by simp, fun k hk => setRow_other w g k _ hk, fun us e' h => ?_⟩ (setRow_heap w g cur _ e _ hg) (by rw [hsz', hcs]) ?_⟩
        · rw [hg] at h
          simp only [Option.some.injEq, Obj.cells.injEq] at h
          obtain ⟨rfl, rfl, _⟩ := h
          exact ⟨_, _, setRow_heap w g cur _ e _ hg, hsz'⟩
        · rw [htake, ← hlen]
          exact List.take_left
      · have holds : ∀ j u, xs[j]? = some u → w.cell? ((⟨g, 0, none⟩ : Addr).add j) = some u := by
          intro j u hj
          rw [add_off, Nat.zero_add, cell_get hg, ← Array.getElem?_toList]
          rw [← htake, List.getElem?_take] at hj
          split at hj
          · exact hj
          · cases hj
        have hr := run_append_grow (P := P) w t ty e i z ht hi hz ⟨g, 0, none⟩ n cap xs hxl holds ad m c vs hl hnews (by omega) (by omega) (growslice_fits (by omega) hb)
        exact ⟨_, _, hr, grown cap (by omega)⟩

theorem RMs.of_take {ms : List M} {us : List Value} {n : Nat} (h : RMs ok w ms (us.take n)) (hl : n ≤ us.length) : ms.length = n := by
  have := h.length; simp at this; omega

/-- the claims behind an append -/
theorem Conc.append (hc : Conc N w0 ok0 S0 T H β ok a w) (dst : Option Nat) (hd : ∀ d, dst = some d → d < N) {v v' : Value} {n m size : Nat} {e : TypeId} {xs vs : List Value} {cs news : List M} (hv : Shows w v n size e xs) (hcame : Came w v n m size e xs vs v' w')
    (hcs : RMs ok w cs xs) (hnews : RMs ok w news vs) (hm : vs.length = m * size) (hxl : xs.length = n * size) {id id0 : Nat} (hf : Fresh T H id) (H' : Nat → Option O) (hH' : ∀ i o', H' i = some o' → (i = id ∧ o' = .rw e size (cs ++ news)) ∨ (i ≠ id ∧ i ≠ id0 ∧ H i = some o'))
    (hown : ∀ g n' cap, v = .slice (some ⟨g, 0, none⟩) n' cap → β id0 = some g ∧ ∃ o0, H id0 = some o0) :
    ∃ β', Conc N w0 ok0 S0 (putT T dst (some (.row id (n + m) size))) H' β' ok (a.put dst v') w' := by
  have hne : ∀ b i, i ≠ id → updβ β id b i = β i := fun b i h => by unfold updβ; rw [if_neg h]
  have hid : ∀ b, updβ β id b id = b := fun b => by unfold updβ; rw [if_pos rfl]
  have hcl : cs.length = n * size := by rw [hcs.length, hxl]
  have hnl : news.length = m * size := by rw [hnews.length, hm]
  have htot : (cs ++ news).length = (n + m) * size := by rw [List.length_append, hcl, hnl, Nat.add_mul]
  cases hcame with
  | same h h' =>
    subst h
    subst h'
    have hn : news = [] := List.eq_nil_of_length_eq_zero (by rw [hnl]; simp)
    subst hn
    have hnames : ∀ b is, id ∉ is → Names β (updβ β id b) w w is := fun b is hi => ⟨fun i b' hi' hb' => by rw [hne _ i (by rintro rfl; exact hi hi')]; exact hb', fun i b us e _ _ h => ⟨us, e, h, rfl⟩⟩
    rcases hv with ⟨rfl, rfl, rfl⟩ | ⟨g, cap, cur, rfl, hg, hnc, hcm, hcsz, htake⟩
    · have hcn : cs = [] := List.eq_nil_of_length_eq_zero (by rw [hcl]; simp)
      subst hcn
      refine ⟨updβ β id none, hc.step dst _ _ hd (Stays.refl ok w) (fun i d h => hnames _ _ (hf.1 i d h)) ?_ ?_ ?_ ?_ hc.okl hc.okf ?_ hc.keep⟩
      · intro d h
        simp only [Option.some.injEq] at h; subst h
        simp [RD]
      · intro i o' h
        rcases hH' i o' h with ⟨rfl, rfl⟩ | ⟨h1, h2, h3⟩
        · simp only [RO]; exact .inl ⟨hid _, by simp⟩
        · exact RO.mono (Stays.refl ok w) (hnames _ _ (hf.2 i o' h3).2) (hne _ i h1) (fun _ _ => rfl) (hc.obj i o' h3)
      · intro i j o1 o2 b h1 h2 h3 h4
        rcases hH' i o1 h1 with ⟨rfl, rfl⟩ | ⟨g1, g2, g3⟩
        · rw [hid] at h3; cases h3
        · rcases hH' j o2 h2 with ⟨rfl, rfl⟩ | ⟨k1, k2, k3⟩
          · rw [hid] at h4; cases h4
          · rw [hne _ i g1] at h3; rw [hne _ j k1] at h4; exact hc.inj i j o1 o2 b g3 k3 h3 h4
      · intro b hb i o' h
        rcases hH' i o' h with ⟨rfl, rfl⟩ | ⟨h1, h2, h3⟩
        · rw [hid]; simp
        · rw [hne _ i h1]; exact hc.okd b hb i o' h3
      · intro i o' b h hb
        rcases hH' i o' h with ⟨rfl, rfl⟩ | ⟨h1, h2, h3⟩
        · rw [hid] at hb; cases hb
        · rw [hne _ i h1] at hb; exact hc.low i o' b h3 hb
    · obtain ⟨hb0, o0, hlive⟩ := hown g n cap rfl
      refine ⟨updβ β id (some g), hc.step dst _ _ hd (Stays.refl ok w) (fun i d h => hnames _ _ (hf.1 i d h)) ?_ ?_ ?_ ?_ hc.okl hc.okf ?_ hc.keep⟩
      · intro d h
        simp only [Option.some.injEq] at h; subst h
        simp only [RD]; exact .inr ⟨g, cap, hid _, rfl, hnc, hcm, cur, e, hg, hcsz⟩
      · intro i o' h
        rcases hH' i o' h with ⟨rfl, rfl⟩ | ⟨h1, h2, h3⟩
        · simp only [RO]
          refine .inr ⟨g, cur, cap, hid _, hg, hcsz, hcm, ?_, ?_⟩
          · rw [htot, hcsz]; exact Nat.mul_le_mul_right _ hnc
          · rw [htot, Nat.add_zero, htake, List.append_nil]; exact hcs
        · exact RO.mono (Stays.refl ok w) (hnames _ _ (hf.2 i o' h3).2) (hne _ i h1) (fun _ _ => rfl) (hc.obj i o' h3)
      · intro i j o1 o2 b h1 h2 h3 h4
        rcases hH' i o1 h1 with ⟨rfl, rfl⟩ | ⟨g1, g2, g3⟩
        · rcases hH' j o2 h2 with ⟨rfl, rfl⟩ | ⟨k1, k2, k3⟩
          · rfl
          · rw [hid] at h3; cases h3
            rw [hne _ j k1] at h4
            exact absurd (hc.inj j id0 o2 o0 _ k3 hlive h4 hb0) k2
        · rcases hH' j o2 h2 with ⟨rfl, rfl⟩ | ⟨k1, k2, k3⟩
          · rw [hid] at h4; cases h4
            rw [hne _ i g1] at h3
            exact absurd (hc.inj i id0 o1 o0 _ g3 hlive h3 hb0) g2
          · rw [hne _ i g1] at h3; rw [hne _ j k1] at h4; exact hc.inj i j o1 o2 b g3 k3 h3 h4
      · intro b hb i o' h
        rcases hH' i o' h with ⟨rfl, rfl⟩ | ⟨h1, h2, h3⟩
        · rw [hid]; intro he; cases he; exact hc.okd _ hb id0 o0 hlive hb0
        · rw [hne _ i h1]; exact hc.okd b hb i o' h3
      · intro i o' b h hb
        rcases hH' i o' h with ⟨rfl, rfl⟩ | ⟨h1, h2, h3⟩
        · rw [hid] at hb; cases hb; exact hc.low id0 o0 _ hlive hb0
        · rw [hne _ i h1] at hb; exact hc.low i o' b h3 hb
  | @room g cap cur cur' w' hv' hg hr ht hg' hs hx =>
    obtain ⟨hb0, o0, hlive⟩ := hown g n cap hv'
    have hnames : ∀ is, id ∉ is → Names β (updβ β id (some g)) w w' is := fun is hi =>
      ⟨fun i b' hi' hb' => by rw [hne _ i (by rintro rfl; exact hi hi')]; exact hb', (ht.names (β := β) is).rows⟩
    have hcm : cap ≤ maxLen := by
      rcases hv with ⟨h, _⟩ | ⟨g', cap', cur'', h, _, _, h2, _⟩
      · rw [hv'] at h; cases h
      · rw [hv'] at h; cases h; exact h2
    have hst : Stays ok ok w w' := fun b' hb' _ => ⟨hb', ht.block b' (by rintro rfl; exact hc.okd b' hb' id0 o0 hlive hb0)⟩
    refine ⟨updβ β id (some g), hc.step dst _ _ hd hst (fun i d h => hnames _ (hf.1 i d h)) ?_ ?_ ?_ ?_ (fun b hb => by rw [ht.size]; exact hc.okl b hb) hc.okf ?_ ?_⟩
    · intro d h
      simp only [Option.some.injEq] at h; subst h
      simp only [RD]; exact .inr ⟨g, cap, hid _, rfl, hr, hcm, cur', e, hg', hs⟩
    · intro i o' h
      rcases hH' i o' h with ⟨rfl, rfl⟩ | ⟨h1, h2, h3⟩
      · simp only [RO]
        refine .inr ⟨g, cur', cap, hid _, hg', hs, hcm, ?_, ?_⟩
        · rw [htot, hs]; exact Nat.mul_le_mul_right _ hr
        · rw [htot, hx]; exact (RMs.mono hst _ _ hcs).append (RMs.mono hst _ _ hnews)
      · exact RO.mono hst (hnames _ (hf.2 i o' h3).2) (hne _ i h1) (fun b hb => ht.block b (by rintro rfl; exact h2 (hc.inj i id0 o' o0 b h3 hlive hb hb0))) (hc.obj i o' h3)
    · intro i j o1 o2 b h1 h2 h3 h4
      rcases hH' i o1 h1 with ⟨rfl, rfl⟩ | ⟨g1, g2, g3⟩
      · rcases hH' j o2 h2 with ⟨rfl, rfl⟩ | ⟨k1, k2, k3⟩
        · rfl
        · rw [hid] at h3; cases h3
          rw [hne _ j k1] at h4
          exact absurd (hc.inj j id0 o2 o0 _ k3 hlive h4 hb0) k2
      · rcases hH' j o2 h2 with ⟨rfl, rfl⟩ | ⟨k1, k2, k3⟩
        · rw [hid] at h4; cases h4
          rw [hne _ i g1] at h3
          exact absurd (hc.inj i id0 o1 o0 _ g3 hlive h3 hb0) g2
        · rw [hne _ i g1] at h3; rw [hne _ j k1] at h4; exact hc.inj i j o1 o2 b g3 k3 h3 h4
    · intro b hb i o' h
      rcases hH' i o' h with ⟨rfl, rfl⟩ | ⟨h1, h2, h3⟩
      · rw [hid]; intro he; cases he; exact hc.okd _ hb id0 o0 hlive hb0
      · rw [hne _ i h1]; exact hc.okd b hb i o' h3
    · intro i o' b h hb
      rcases hH' i o' h with ⟨rfl, rfl⟩ | ⟨h1, h2, h3⟩
      · rw [hid] at hb; cases hb; exact hc.low id0 o0 _ hlive hb0
      · rw [hne _ i h1] at hb; exact hc.low i o' b h3 hb
    · refine ⟨ht.os.trans hc.keep.os, ht.tape.trans hc.keep.tape, ht.output.trans hc.keep.output, by rw [ht.size]; exact hc.keep.size, fun k hk hS => ?_⟩
      rw [ht.block k ?_]
      · exact hc.keep.block k hk hS
      · rintro rfl
        rcases hc.low id0 o0 k hlive hb0 with h1 | h1
        · omega
        · exact hS h1
  | @new cap cur hr hcm hs hx =>
    have hold : ∀ k, k < w.heap.size → (w.drew.alloc (.cells cur e)).heap[k]? = w.heap[k]? := fun k hk => push_get w.drew _ k hk
    have hnewb : (w.drew.alloc (.cells cur e)).heap[w.heap.size]? = some (.cells cur e (0, 0)) := push_new w.drew _
    have hst : Stays ok ok w (w.drew.alloc (.cells cur e)) := fun b' hb' hlt => ⟨hb', hold b' hlt⟩
    have hnames : ∀ is, id ∉ is → Names β (updβ β id (some w.heap.size)) w (w.drew.alloc (.cells cur e)) is := fun is hi =>
      ⟨fun i b' hi' hb' => by rw [hne _ i (by rintro rfl; exact hi hi')]; exact hb', fun i b us e' _ _ h => ⟨us, e', by rw [hold b (heap_lt h)]; exact h, rfl⟩⟩
    refine ⟨updβ β id (some w.heap.size), hc.step dst _ _ hd hst (fun i d h => hnames _ (hf.1 i d h)) ?_ ?_ ?_ ?_ (fun b hb => by have := hc.okl b hb; simp; omega) hc.okf ?_ ?_⟩
    · intro d h
      simp only [Option.some.injEq] at h; subst h
      simp only [RD]; exact .inr ⟨w.heap.size, cap, hid _, rfl, hr, hcm, cur, e, hnewb, hs⟩
    · intro i o' h
      rcases hH' i o' h with ⟨rfl, rfl⟩ | ⟨h1, h2, h3⟩
      · simp only [RO]
        refine .inr ⟨w.heap.size, cur, cap, hid _, hnewb, hs, hcm, ?_, ?_⟩
        · rw [htot, hs]; exact Nat.mul_le_mul_right _ hr
        · rw [htot, hx]; exact (RMs.mono hst _ _ hcs).append (RMs.mono hst _ _ hnews)
      · exact RO.mono hst (hnames _ (hf.2 i o' h3).2) (hne _ i h1) (fun b hb => hold b (RO.block (hc.obj i o' h3) hb)) (hc.obj i o' h3)
    · intro i j o1 o2 b h1 h2 h3 h4
      rcases hH' i o1 h1 with ⟨rfl, rfl⟩ | ⟨g1, g2, g3⟩
      · rcases hH' j o2 h2 with ⟨rfl, rfl⟩ | ⟨k1, k2, k3⟩
        · rfl
        · rw [hid] at h3; cases h3
          rw [hne _ j k1] at h4
          have := RO.block (hc.obj j o2 k3) h4
          omega
      · rcases hH' j o2 h2 with ⟨rfl, rfl⟩ | ⟨k1, k2, k3⟩
        · rw [hid] at h4; cases h4
          rw [hne _ i g1] at h3
          have := RO.block (hc.obj i o1 g3) h3
          omega
        · rw [hne _ i g1] at h3; rw [hne _ j k1] at h4; exact hc.inj i j o1 o2 b g3 k3 h3 h4
    · intro b hb i o' h
      rcases hH' i o' h with ⟨rfl, rfl⟩ | ⟨h1, h2, h3⟩
      · rw [hid]; have := hc.okl b hb; intro he; cases he; omega
      · rw [hne _ i h1]; exact hc.okd b hb i o' h3
    · intro i o' b h hb
      rcases hH' i o' h with ⟨rfl, rfl⟩ | ⟨h1, h2, h3⟩
      · rw [hid] at hb; cases hb; exact .inl hc.keep.size
      · rw [hne _ i h1] at hb; exact hc.low i o' b h3 hb
    · exact ⟨hc.keep.os, hc.keep.tape, hc.keep.output, Nat.le_trans hc.keep.size (by simp), fun k hk hS => by rw [hold k (Nat.lt_of_lt_of_le hk hc.keep.size)]; exact hc.keep.block k hk hS⟩

/-- what is appended, in memory -/
theorem News.src (hc : Conc N w0 ok0 S0 T H β ok a w) {d : D} {m size : Nat} {news : List M} {js : List Nat} {v : Value} (hd : News H d m news js) (hr : RD β ok w d v) (hm : news.length = m * size) (h0 : 0 < size) (hrs : ∀ id n sz, d = .row id n sz → sz = size) :
    ∃ A c vs, v = .slice A m c ∧ RMs ok w news vs ∧ (A = none → m = 0) ∧ ∀ ad, A = some ad → ∀ j u, vs[j]? = some u → w.cell? (ad.add j) = some u := by
  cases hd with
  | nil =>
    simp only [RD, RM] at hr
    exact ⟨none, 0, [], hr, by simp [RMs], fun _ => rfl, by simp⟩
  | seq =>
    simp only [RD, RM] at hr
    obtain ⟨A, cap, rfl, _, _, h3, h4, h5⟩ := hr
    by_cases hn : news = []
    · subst hn
      refine ⟨A, cap, [], rfl, by simp [RMs], fun _ => ?_, by simp⟩
      rcases Nat.eq_zero_or_pos m with h | h
      · exact h
      · have := Nat.mul_pos h h0
        simp only [List.length_nil] at hm
        omega
    · obtain ⟨b, off, rfl, _⟩ := h4 hn
      obtain ⟨vs, g1, g2, g3⟩ := (h5 b off rfl).vals
      refine ⟨_, cap, vs, rfl, g3, (fun h => by cases h), ?_⟩
      intro ad had j u hu
      cases had
      rw [add_off]
      exact g2 j u hu
  | @row id n sz e cs h hl =>
    obtain rfl := hrs id m sz rfl
    simp only [RD] at hr
    rcases hr with ⟨rfl, rfl⟩ | ⟨b, cap, hb, rfl, hnc, hcm, us, e', hh, hus⟩
    · exact ⟨none, 0, [], rfl, by simp [RMs], fun _ => rfl, by simp⟩
    · obtain ⟨us', cap', h1, h2, h3, h4, h5⟩ := rd_rw hc h hb
      have h6 := h5.take (m * sz)
      rw [List.take_take, show min (m * sz) cs.length = m * sz by omega] at h6
      refine ⟨_, cap, _, rfl, h6, (fun h => by cases h), ?_⟩
      intro ad had j u hu
      cases had
      rw [add_off, Nat.zero_add, cell_get h1, ← Array.getElem?_toList]
      rw [List.getElem?_take] at hu
      split at hu
      · exact hu
      · cases hu

section
variable (hL : LayOk P L) (hc : Conc N w0 ok0 S0 T H β ok a w) (hN : ∀ d, o.dst = some d → d < N)
include hL hc hN

theorem s_append {x y : Operand} {t : Nat} {i : TI} {e : Nat} {ei : TI} {id0 n m : Nat} {cs news : List M} {js : List Nat} {d : D} {id : Nat} (ho : o.op = .call { callee := .builtin .append, args := #[x, y], argTypes := #[t, t] }) (hdst : o.dst = some id)
    (h : ev T x = some (.row id0 n ei.size)) (hy : ev T y = some d) (hd : News H d m news js) (hg : H id0 = some (.rw e ei.size cs)) (hi : L t = some i) (hf : i.desc = .slice e) (hei : L e = some ei) (h0 : 0 < ei.size)
    (hn : n * ei.size ≤ cs.length) (hm : news.length = m * ei.size) (hb : (n + m) * ei.bytes ≤ 140737488355328) (hmx : n + m ≤ 9223372036854775807) (hrs : ∀ id n sz, d = .row id n sz → sz = ei.size) (hfr : Fresh T H id) :
    o.wp P a w (After N w0 ok0 S0 T H o ⟨some (.row id (n + m) ei.size), [(id, some (.rw e ei.size (cs.take (n * ei.size) ++ news))), (id0, none)], [id], id0 :: js⟩) Q := by
  obtain ⟨hu, _⟩ := hL t i hi
  obtain ⟨_, ⟨inf, q1, q2, q3, q4⟩, _, _, q5⟩ := hL e ei hei
  have hrx := ev_rd hc h
  obtain ⟨A, c, vs, hyv, hvs, hA, hcells⟩ := hd.src hc (ev_rd hc hy) hm h0 hrs
  have hvl : vs.length = m * ei.size := by rw [← hvs.length, hm]
  have hshow : ∃ xs, Shows w (a.eval x) n ei.size e xs ∧ RMs ok w (cs.take (n * ei.size)) xs ∧ xs.length = n * ei.size ∧ ∀ g n' cap, a.eval x = .slice (some ⟨g, 0, none⟩) n' cap → β id0 = some g ∧ ∃ o0, H id0 = some o0 := by
    simp only [RD] at hrx
    rcases hrx with ⟨hv, rfl⟩ | ⟨b, cap, hbb, hv, hnc, hcm, us, e', hh, hus⟩
    · exact ⟨[], .inl ⟨hv, rfl, rfl⟩, by simp [RMs], by simp, fun g n' cap h => by rw [hv] at h; cases h⟩
    · obtain ⟨us', cap', h1, h2, h3, h4, h5⟩ := rd_rw hc hg hbb
      have h6 := h5.take (n * ei.size)
      rw [List.take_take, show min (n * ei.size) cs.length = n * ei.size by omega] at h6
      rw [hh] at h1
      simp only [Option.some.injEq, Obj.cells.injEq] at h1
      obtain ⟨rfl, rfl, _⟩ := h1
      refine ⟨_, .inr ⟨b, cap, us, hv, hh, hnc, hcm, hus, rfl⟩, h6, by simp; omega, fun g n' cap' h => ?_⟩
      rw [hv] at h; cases h
      exact ⟨hbb, _, hg⟩
  obtain ⟨xs, hs1, hs2, hs3, hs4⟩ := hshow
  obtain ⟨v', w', hrun, hcame⟩ := run_append_all (P := P) t o.type e inf ei.zero (by rw [hu, hf]) q1 q4 (by rw [q2]; exact q5) (by rw [q2]; exact h0) (by rw [q2]; exact hs1) (A := A) (m := m) (c := c) (by rw [q2]; exact hvl) hA hcells hvs.one (by unfold maxLen; exact hmx) (by rw [q3]; exact hb)
  rw [q2] at hcame
  refine wp_val (v := v') (w' := w') ?_ ?_
  · simp only [execOp, ho, resolve, invoke, builtin, Sem.run_bind, Sem.run_pure, Result.andThen_ok, List.map_toArray, List.map_cons, List.map_nil, hyv, hrun]
  · have hH' : ∀ j o', chH H [(id, some (.rw e ei.size (cs.take (n * ei.size) ++ news))), (id0, none)] j = some o' → (j = id ∧ o' = .rw e ei.size (cs.take (n * ei.size) ++ news)) ∨ (j ≠ id ∧ j ≠ id0 ∧ H j = some o') := by
      intro j o' hj
      simp only [chH] at hj
      by_cases h1 : id = j
      · rw [if_pos h1] at hj
        exact .inl ⟨h1.symm, by simpa using hj.symm⟩
      · rw [if_neg h1] at hj
        by_cases h2 : id0 = j
        · rw [if_pos h2] at hj; cases hj
        · rw [if_neg h2] at hj; exact .inr ⟨fun h => h1 h.symm, fun h => h2 h.symm, hj⟩
    obtain ⟨β', hβ'⟩ := hc.append o.dst hN hs1 hcame hs2 hvs hvl hs3 hfr _ (id0 := id0) hH' hs4
    exact ⟨β', ok, hβ'⟩

theorem s_appendNil {x y : Operand} {t : Nat} {i : TI} {e : Nat} {ei : TI} {m : Nat} {news : List M} {js : List Nat} {d : D} {id : Nat} (ho : o.op = .call { callee := .builtin .append, args := #[x, y], argTypes := #[t, t] }) (hdst : o.dst = some id)
    (h : ev T x = some (.im .nil)) (hy : ev T y = some d) (hd : News H d m news js) (hi : L t = some i) (hf : i.desc = .slice e) (hei : L e = some ei) (h0 : 0 < ei.size)
    (hm : news.length = m * ei.size) (hb : m * ei.bytes ≤ 140737488355328) (hmx : m ≤ 9223372036854775807) (hrs : ∀ id n sz, d = .row id n sz → sz = ei.size) (hfr : Fresh T H id) :
    o.wp P a w (After N w0 ok0 S0 T H o ⟨some (.row id m ei.size), [(id, some (.rw e ei.size news))], [id], js⟩) Q := by
  obtain ⟨hu, _⟩ := hL t i hi
  obtain ⟨_, ⟨inf, q1, q2, q3, q4⟩, _, _, q5⟩ := hL e ei hei
  obtain ⟨A, c, vs, hyv, hvs, hA, hcells⟩ := hd.src hc (ev_rd hc hy) hm h0 hrs
  have hvl : vs.length = m * ei.size := by rw [← hvs.length, hm]
  have hs1 : Shows w (a.eval x) 0 ei.size e [] := .inl ⟨rd_nil hc h, rfl, rfl⟩
  obtain ⟨v', w', hrun, hcame⟩ := run_append_all (P := P) t o.type e inf ei.zero (by rw [hu, hf]) q1 q4 (by rw [q2]; exact q5) (by rw [q2]; exact h0) (by rw [q2]; exact hs1) (A := A) (m := m) (c := c) (by rw [q2]; exact hvl) hA hcells hvs.one (by unfold maxLen; omega) (by rw [q3, Nat.zero_add]; exact hb)
  rw [q2] at hcame
  refine wp_val (v := v') (w' := w') ?_ ?_
  · simp only [execOp, ho, resolve, invoke, builtin, Sem.run_bind, Sem.run_pure, Result.andThen_ok, List.map_toArray, List.map_cons, List.map_nil, hyv, hrun]
  · have hH' : ∀ j o', chH H [(id, some (.rw e ei.size news))] j = some o' → (j = id ∧ o' = .rw e ei.size ([] ++ news)) ∨ (j ≠ id ∧ j ≠ id ∧ H j = some o') := by
      intro j o' hj
      simp only [chH] at hj
      by_cases h1 : id = j
      · rw [if_pos h1] at hj
        exact .inl ⟨h1.symm, by simpa using hj.symm⟩
      · rw [if_neg h1] at hj
        exact .inr ⟨fun h => h1 h.symm, fun h => h1 h.symm, hj⟩
    obtain ⟨β', hβ'⟩ := hc.append o.dst hN hs1 hcame (cs := []) (by simp [RMs]) hvs hvl (by simp) hfr _ (id0 := id) hH' (fun g n' cap hv => by rw [rd_nil hc h] at hv; cases hv)
    rw [Nat.zero_add] at hβ'
    exact ⟨β', ok, hβ'⟩
end
end
end Fw

/-! ## FwH: A program logic over data: each operation's step holds in the model: the rest, and all. -/
namespace Fw
open Go Go.RowKit
set_option linter.unusedVariables false
set_option linter.unusedSimpArgs false
set_option linter.unusedSectionVars false

theorem bytes_toList (l : List UInt8) : (⟨l.toArray⟩ : ByteArray).toList = l := by
  have key : ∀ (s : ByteArray) (n i : Nat) (r : List UInt8), s.size - i = n → ByteArray.toList.loop s i r = r.reverse ++ s.data.toList.drop i := by
    intro s n
    induction n with
    | zero =>
      intro i r h
      rw [ByteArray.toList.loop, if_neg (by omega), List.drop_eq_nil_of_le (by have : s.data.size = s.size := rfl; simp; omega)]
      simp
    | succ n ih =>
      intro i r h
      have hlt : i < s.size := by omega
      rw [ByteArray.toList.loop, if_pos hlt, ih (i + 1) _ (by omega)]
      have hlt' : i < s.data.toList.length := by have : s.data.size = s.size := rfl; simpa using hlt
      rw [List.drop_eq_getElem_cons hlt']
      have : s.get! i = s.data.toList[i] := by
        simp only [ByteArray.get!, Array.getElem_toList]
        exact getElem!_pos s.data i (by simpa using hlt')
      simp [this]
  have := key ⟨l.toArray⟩ _ 0 [] rfl
  unfold ByteArray.toList
  rw [this]
  simp

section
variable {P : Program} {L : Nat → Option TI} {N : Nat} {w0 : World} {ok0 S0 : Nat → Prop} {T : Nat → Option D} {H : Nat → Option O} {β : Nat → Option Nat} {ok : Nat → Prop} {a : Act} {w w' : World}
  {o : Oper} {Q : Exit → Act → World → Prop} {K : Act → World → Prop}

theorem run_bound {v : Value} {k : IntKind} {l : Int} {y : Nat} {code : BoundsCode} (hv : v = .int k l) (h0 : 0 ≤ l) (h1 : l ≤ y) : (Instr.sliceBound v y code).run P w = .ok l.toNat w := by
  subst hv
  simp only [Instr.sliceBound, asIntOf, Sem.run_bind, Sem.run_pure, Result.andThen_ok, if_pos (And.intro h0 h1)]
theorem extract_str (s : List UInt8) (l h : Nat) : (⟨s.toArray⟩ : ByteArray).extract l h = ⟨((s.drop l).take (h - l)).toArray⟩ := by
  rw [ByteArray.extract_mk]
theorem str_size (s : List UInt8) : (⟨s.toArray⟩ : ByteArray).size = s.length := by show s.toArray.size = _; simp
theorem rd_agg (hc : Conc N w0 ok0 S0 T H β ok a w) {x : Operand} {ms : List M} (h : ev T x = some (.im (.agg ms))) : ∃ us, a.eval x = .agg us ∧ RMs ok w ms us.toList := by
  have := ev_rd hc h; simpa only [RD, RM] using this
theorem rd_seq (hc : Conc N w0 ok0 S0 T H β ok a w) {x : Operand} {n : Nat} {cs : List M} (h : ev T x = some (.im (.seq n cs))) :
    ∃ A cap, a.eval x = .slice A n cap ∧ n ≤ cap ∧ cap ≤ maxLen ∧ (n = 0 → cs = []) ∧ (cs ≠ [] → ∃ b off, A = some ⟨b, off, none⟩ ∧ ok b) ∧ (∀ b off, A = some ⟨b, off, none⟩ → RMc ok w b off cs) := by
  have := ev_rd hc h; simpa only [RD, RM] using this
theorem rd_row (hc : Conc N w0 ok0 S0 T H β ok a w) {x : Operand} {id n sz : Nat} (h : ev T x = some (.row id n sz)) :
    (a.eval x = .slice none 0 0 ∧ n = 0) ∨ ∃ b cap, β id = some b ∧ a.eval x = .slice (some ⟨b, 0, none⟩) n cap ∧ n ≤ cap ∧ cap ≤ maxLen ∧ ∃ us e, w.heap[b]? = some (.cells us e (0, 0)) ∧ us.size = cap * sz := by
  have := ev_rd hc h; simpa only [RD] using this

section
variable (hL : LayOk P L) (hc : Conc N w0 ok0 S0 T H β ok a w) (hN : ∀ d, o.dst = some d → d < N)
include hL hc hN

theorem run_fieldPlace {b off : Nat} {f : Field} {fi : TI} (hfi : L f.type = some fi) (h0 : fi.size ≠ 0) : (fieldPlace ⟨b, off, none⟩ f).run P w = .ok ⟨b, off + f.offset, none⟩ w := by
  simp only [fieldPlace, Sem.run_bind, run_sizeOf hL hfi, Result.andThen_ok, if_neg h0, add_off, Sem.run_pure]

theorem s_fieldP {t k id off : Nat} {x : Operand} {i fi : TI} {fs : Array Field} {f : Field} (ho : o.op = .fieldAddr t x k) (h : ev T x = some (.ptr id off)) (hi : L t = some i) (hf : i.desc = .struct fs) (hk : fs[k]? = some f) (hfi : L f.type = some fi) (h0 : fi.size ≠ 0) :
    o.wp P a w (After N w0 ok0 S0 T H o (val (.ptr id (off + f.offset)))) Q := by
  obtain ⟨b, hb, hp⟩ := rd_ptr hc h
  refine go_val hc hN rfl rfl (v := .pointer (some ⟨b, off + f.offset, none⟩)) ?_ (by simp only [RD]; exact ⟨b, hb, rfl⟩)
  simp only [execOp, ho, Instr.fieldAt, Sem.run_bind, run_und hL hi, hf, hk, hp, Instr.sureAddr, Sem.run_pure, Result.andThen_ok, run_fieldPlace hL hc hN (o := o) hfi h0]
theorem s_fieldE {t k : Nat} {x : Operand} {cs : List M} {i fi : TI} {fs : Array Field} {f : Field} (ho : o.op = .fieldAddr t x k) (h : ev T x = some (.ep cs)) (hi : L t = some i) (hf : i.desc = .struct fs) (hk : fs[k]? = some f) (hfi : L f.type = some fi) (h0 : fi.size ≠ 0) :
    o.wp P a w (After N w0 ok0 S0 T H o (val (.ep (cs.drop f.offset)))) Q := by
  obtain ⟨b, off, hp, h1, h2, h3⟩ := rd_ep hc h
  refine go_val hc hN rfl rfl (v := .pointer (some ⟨b, off + f.offset, none⟩)) ?_ (by simp only [RD]; exact ⟨b, _, rfl, h1, h2, h3.drop _⟩)
  simp only [execOp, ho, Instr.fieldAt, Sem.run_bind, run_und hL hi, hf, hk, hp, Instr.sureAddr, Sem.run_pure, Result.andThen_ok, run_fieldPlace hL hc hN (o := o) hfi h0]
theorem s_fieldM {t k : Nat} {x : Operand} {ms : List M} {i fi : TI} {fs : Array Field} {f : Field} {m : M} (ho : o.op = .field t x k) (h : ev T x = some (.im (.agg ms))) (hi : L t = some i) (hf : i.desc = .struct fs) (hk : fs[k]? = some f) (hfi : L f.type = some fi) (ha : aggD fi.desc = false) (hm : ms[f.offset]? = some m) :
    o.wp P a w (After N w0 ok0 S0 T H o (val (.im m))) Q := by
  obtain ⟨us, hv, hr⟩ := rd_agg hc h
  obtain ⟨u, h1, h2, h3⟩ := hr.get hm
  refine go_val hc hN rfl rfl (v := u) ?_ (by simpa only [RD] using h3)
  have h1' : us[f.offset]? = some u := by rw [← Array.getElem?_toList]; exact h1
  simp only [execOp, ho, Instr.field, Sem.run_bind, run_und hL hi, hf, hk, hv, asAgg, Sem.run_pure, Result.andThen_ok, part, run_isAgg hL hfi, ha, h1']
  simp
theorem s_fieldMA {t k : Nat} {x : Operand} {ms : List M} {i fi : TI} {fs : Array Field} {f : Field} (ho : o.op = .field t x k) (h : ev T x = some (.im (.agg ms))) (hi : L t = some i) (hf : i.desc = .struct fs) (hk : fs[k]? = some f) (hfi : L f.type = some fi) (ha : aggD fi.desc = true) :
    o.wp P a w (After N w0 ok0 S0 T H o (val (.im (.agg ((ms.drop f.offset).take fi.size))))) Q := by
  obtain ⟨us, hv, hr⟩ := rd_agg hc h
  have h1 := (hr.drop f.offset).take fi.size
  refine go_val hc hN rfl rfl (v := .agg (us.extract f.offset (f.offset + fi.size))) ?_ ?_
  · simp only [execOp, ho, Instr.field, Sem.run_bind, run_und hL hi, hf, hk, hv, asAgg, Sem.run_pure, Result.andThen_ok, part, run_isAgg hL hfi, ha, if_true, run_sizeOf hL hfi]
  · simp only [RD, RM]
    refine ⟨_, rfl, ?_⟩
    rw [Array.toList_extract, List.extract_eq_take_drop]
    rw [show f.offset + fi.size - f.offset = fi.size by omega]
    exact h1
theorem s_build {t : Nat} {parts : Array (Nat × Operand)} {i : TI} {fs : Array Field} {cs : List D} (ho : o.op = .build t parts) (hi : L t = some i) (hf : i.desc = .struct fs) (ha : fs.toList.all (fun (f : Field) => (L f.type).isSome) = true)
    (hcs : fillD (ev T) (place L fs) ((mcells i.mz).map .im) parts.toList = some cs) : o.wp P a w (After N w0 ok0 S0 T H o (val (mkAgg cs))) Q := by
  obtain ⟨_, _, h3, h4, _⟩ := hL t i hi
  have hz : RDs β ok w ((mcells i.mz).map .im) i.zero.cells.toList := RMs.rds (RMs.mono (ok := fun _ => False) (w := w) (fun _ hf _ => hf.elim) _ _ (RM.cells h4 (h3 w)))
  have hpl : ∀ j p, place L fs j = some p → (fs.map fun (f : Field) => (f.offset, ((L f.type).map (·.size)).getD 0))[j]? = some p := by
    intro j p hp
    unfold place at hp
    cases hj : fs[j]? with
    | none => rw [hj] at hp; cases hp
    | some f =>
      rw [hj] at hp
      simp only [Option.map_eq_some_iff] at hp
      obtain ⟨k, hk, rfl⟩ := hp
      simp [hj, hk]
  obtain ⟨us', g1, g2⟩ := fillD_run (w := w) (β := β) (ok := ok) (er := a.eval) (fun x d hx => ev_rd hc hx) (pl' := fun j => (fs.map fun (f : Field) => (f.offset, ((L f.type).map (·.size)).getD 0))[j]?) hpl parts.toList _ cs _ hcs hz
  refine go_val hc hN rfl rfl (v := .agg us') ?_ (mkAgg_rd g2)
  simp only [execOp, ho, Instr.build, Sem.run_bind, run_zero hL hi, run_und hL hi, hf, run_placesA hL fs ha, Sem.run_pure, Result.andThen_ok, Array.toList_map]
  rw [g1]
  simp
theorem s_buildSlice {t len id : Nat} {parts : Array (Nat × Operand)} {i : TI} {e : Nat} {ei : TI} {cs : List M} (ho : o.op = .buildSlice t len parts) (hdst : o.dst = some id) (hi : L t = some i) (hf : i.desc = .slice e) (hei : L e = some ei) (h0 : 0 < ei.size) (hl : len * ei.size ≤ 16777216)
    (hcs : fillM (ev T) (fun k => some (k * ei.size, ei.size)) (List.replicate len (mcells ei.mz)).flatten parts.toList = some cs) (hfr : Fresh T H id) :
    o.wp P a w (After N w0 ok0 S0 T H o ⟨some (.row id len ei.size), [(id, some (.rw e ei.size cs))], [id], []⟩) Q := by
  obtain ⟨_, _, h3, h4, h5⟩ := hL e ei hei
  have hz : RMs ok w (mcells ei.mz) ei.zero.cells.toList := RMs.mono (ok := fun _ => False) (w := w) (fun _ hf _ => hf.elim) _ _ (RM.cells h4 (h3 w))
  have hzl : (mcells ei.mz).length = ei.size := by rw [← h5, RM.cells_len h4 (h3 w)]
  have hrep : ∀ n, RMs ok w (List.replicate n (mcells ei.mz)).flatten (List.replicate n ei.zero.cells.toList).flatten := by
    intro n
    induction n with
    | zero => simp [RMs]
    | succ n ih => simp only [List.replicate_succ, List.flatten_cons]; exact hz.append ih
  have hcells : ((if len * ei.size = 0 then #[] else (Array.range (len * ei.size)).map fun x => ei.zero.cells[x % ei.zero.cells.size]!) : Array Value).toList = (List.replicate len ei.zero.cells.toList).flatten := by
    by_cases hz0 : len * ei.size = 0
    · rw [if_pos hz0]
      have : len = 0 := by rcases Nat.eq_zero_or_pos len with h | h; exact h; have := Nat.mul_pos h h0; omega
      subst this; simp
    · rw [if_neg hz0]
      apply List.ext_getElem
      · have : ∀ n, (List.replicate n ei.zero.cells.toList).flatten.length = n * ei.size := by
          intro n; induction n with
          | zero => simp
          | succ n ih => simp only [List.replicate_succ, List.flatten_cons, List.length_append, ih]; simp [h5, Nat.add_mul]; omega
        rw [this]; simp
      · intro j hj1 hj2
        simp only [Array.toList_map, List.getElem_map]
        have key : ∀ n j (hj : j < (List.replicate n ei.zero.cells.toList).flatten.length), (List.replicate n ei.zero.cells.toList).flatten[j] = ei.zero.cells[j % ei.zero.cells.size]! := by
          intro n
          induction n with
          | zero => intro j hj; simp at hj
          | succ n ih =>
            intro j hj
            simp only [List.replicate_succ, List.flatten_cons] at hj ⊢
            rcases Nat.lt_or_ge j ei.zero.cells.size with hlt | hge
            · rw [List.getElem_append_left (by simpa using hlt), Nat.mod_eq_of_lt hlt, getElem!_pos ei.zero.cells j hlt]; simp
            · rw [List.getElem_append_right (by simpa using hge)]
              simp only [Array.length_toList]
              rw [ih, Nat.mod_eq_sub_mod hge]
        rw [key len j hj2]
        simp
  obtain ⟨us', g1, g2⟩ := fillM_run (w := w) (β := β) (ok := ok) (er := a.eval) (fun x d hx => ev_rd hc hx) (pl' := fun k => some (k * ei.size, ei.size)) (fun _ _ h => h) parts.toList _ cs ((if len * ei.size = 0 then #[] else (Array.range (len * ei.size)).map fun x => ei.zero.cells[x % ei.zero.cells.size]!) : Array Value) hcs (by rw [hcells]; exact hrep len)
  have husz : us'.size = len * ei.size := by
    have := g2.length
    have hlen : ∀ (ps : List (Nat × Operand)) (c c' : List M), fillM (ev T) (fun k => some (k * ei.size, ei.size)) c ps = some c' → c'.length = c.length := by
      intro ps
      induction ps with
      | nil => intro c c' h; simp only [fillM, Option.some.injEq] at h; subst h; rfl
      | cons p ps ih =>
        intro c c' h
        obtain ⟨j, x⟩ := p
        simp only [fillM] at h
        cases hx : (ev T x).bind toM with
        | none => rw [hx] at h; simp at h
        | some d =>
          rw [hx] at h
          simp only [] at h
          cases hb : (mwhole d && Nat.beq (mcells d).length ei.size && Nat.ble (j * ei.size + ei.size) c.length) with
          | false => rw [hb] at h; simp at h
          | true =>
            rw [hb] at h
            simp only [Bool.and_eq_true] at hb
            have h2' := Nat.eq_of_beq_eq_true hb.1.2
            have h3' := Nat.le_of_ble_eq_true hb.2
            rw [ih _ _ (by simpa using h), splice_length (by omega)]
    have h6 := hlen _ _ _ hcs
    have : ∀ n, (List.replicate n (mcells ei.mz)).flatten.length = n * ei.size := by
      intro n; induction n with
      | zero => simp
      | succ n ih => simp only [List.replicate_succ, List.flatten_cons, List.length_append, ih]; simp [hzl, Nat.add_mul]; omega
    rw [this] at h6
    simp at *; omega
  refine wp_val (v := .slice (some ⟨w.heap.size, 0, none⟩) len len) (w' := w.alloc (.cells us' e)) ?_ ⟨updβ β id (some w.heap.size), ok, ?_⟩
  · simp only [execOp, ho, Instr.buildSlice, Sem.run_bind, run_und hL hi, hf, run_sizeOf hL hei, Sem.run_pure, Result.andThen_ok]
    rw [if_neg (by omega)]
    by_cases hz0 : len * ei.size = 0
    · rw [if_pos hz0] at g1 ⊢
      simp only [Sem.run_pure, Result.andThen_ok, hz0]
      simp only [Array.toList_map]
      simp only [show Array.range 0 = #[] from rfl, Array.map_empty, g1, run_newRow, Sem.run_bind, Result.andThen_ok, Sem.run_pure]
    · rw [if_neg hz0] at g1 ⊢
      simp only [Sem.run_bind, run_zero hL hei, Sem.run_pure, Result.andThen_ok, Array.toList_map, g1, run_newRow]
  · refine hc.new o.dst _ _ hN id _ _ hfr ?_ ?_
    · simp only [RO]
      refine .inr ⟨w.heap.size, us', len, by simp [updβ], push_new w _, husz, ?_, ?_, ?_⟩
      · unfold maxLen
        have : len * 1 ≤ len * ei.size := Nat.mul_le_mul_left _ h0
        omega
      · have := g2.length; simp at this; omega
      · rw [g2.length, List.take_length]
        exact RMs.mono (Stays.alloc ok w _) _ _ g2
    · intro d hd
      simp only [Option.some.injEq] at hd; subst hd
      simp only [RD]
      refine .inr ⟨w.heap.size, len, by simp [updβ], rfl, Nat.le_refl _, ?_, us', e, push_new w _, husz⟩
      unfold maxLen
      have : len * 1 ≤ len * ei.size := Nat.mul_le_mul_left _ h0
      omega
theorem s_indexR {t id n sz : Nat} {x ix : Operand} {k : IntKind} {j : Int} {i : TI} {e : Nat} {ei : TI} (ho : o.op = .indexAddr t x ix) (h : ev T x = some (.row id n sz)) (hx : ev T ix = some (.im (.int k j))) (hi : L t = some i) (hf : i.desc = .slice e) (hei : L e = some ei) (hsz : ei.size = sz) (h0 : 0 ≤ j) (h1 : j < n) :
    o.wp P a w (After N w0 ok0 S0 T H o (val (.ptr id (j.toNat * sz)))) Q := by
  rcases rd_row hc h with ⟨_, rfl⟩ | ⟨b, cap, hb, hv, _⟩
  · omega
  · refine go_val hc hN rfl rfl (v := .pointer (some ⟨b, j.toNat * sz, none⟩)) ?_ (by simp only [RD]; exact ⟨b, hb, rfl⟩)
    simp only [execOp, ho, Instr.indexAt, rd_int hc hx, asIntOf, hv, Sem.run_bind, Sem.run_pure, Result.andThen_ok, run_und hL hi, hf]
    rw [if_pos ⟨h0, h1⟩]
    simp only [Sem.run_bind, run_sizeOf hL hei, Result.andThen_ok, Sem.run_pure, add_off, hsz, Nat.zero_add]
theorem s_indexS {t n : Nat} {cs : List M} {x ix : Operand} {k : IntKind} {j : Int} {i : TI} {e : Nat} {ei : TI} (ho : o.op = .indexAddr t x ix) (h : ev T x = some (.im (.seq n cs))) (hx : ev T ix = some (.im (.int k j))) (hi : L t = some i) (hf : i.desc = .slice e) (hei : L e = some ei) (h0 : 0 ≤ j) (h1 : j < n) (h2 : j.toNat * ei.size < cs.length) :
    o.wp P a w (After N w0 ok0 S0 T H o (val (.ep (cs.drop (j.toNat * ei.size))))) Q := by
  obtain ⟨A, cap, hv, _, _, _, g4, g5⟩ := rd_seq hc h
  obtain ⟨b, off, rfl, hok⟩ := g4 (by rintro rfl; simp at h2)
  refine go_val hc hN rfl rfl (v := .pointer (some ⟨b, off + j.toNat * ei.size, none⟩)) ?_ (by simp only [RD]; exact ⟨b, _, rfl, hok, hc.okl b hok, (g5 b off rfl).drop _⟩)
  simp only [execOp, ho, Instr.indexAt, rd_int hc hx, asIntOf, hv, Sem.run_bind, Sem.run_pure, Result.andThen_ok, run_und hL hi, hf]
  rw [if_pos ⟨h0, h1⟩]
  simp only [Sem.run_bind, run_sizeOf hL hei, Result.andThen_ok, Sem.run_pure, add_off]
theorem s_indexStr {t : Nat} {s : List UInt8} {x ix : Operand} {k : IntKind} {j : Int} {i : TI} {c : UInt8} (ho : o.op = .index t x ix) (h : ev T x = some (.im (.str s))) (hx : ev T ix = some (.im (.int k j))) (hi : L t = some i) (hf : i.desc = .string) (h0 : 0 ≤ j) (hcc : s[j.toNat]? = some c) :
    o.wp P a w (After N w0 ok0 S0 T H o (val (.im (.int .u8 c.toNat)))) Q := by
  refine go_val hc hN rfl rfl (v := .int .u8 c.toNat) ?_ (by simp only [RD, RM])
  have hb : (⟨s.toArray⟩ : ByteArray)[j.toNat]? = some c := by
    have hlt : j.toNat < s.length := (List.getElem?_eq_some_iff.1 hcc).1
    have he := (List.getElem?_eq_some_iff.1 hcc).2
    rw [getElem?_pos (⟨s.toArray⟩ : ByteArray) j.toNat (by show _ < s.toArray.size; simpa using hlt)]
    show some (s.toArray[j.toNat]'_) = _
    simp [he]
  simp only [execOp, ho, Instr.index, rd_int hc hx, rd_str hc h, asIntOf, Sem.run_bind, Sem.run_pure, Result.andThen_ok, run_und hL hi, hf, if_pos h0, hb]
theorem s_sliceStrLo {t : Nat} {s : List UInt8} {x lo : Operand} {k : IntKind} {l : Int} {i : TI} (ho : o.op = .slice t x (some lo) none none) (h : ev T x = some (.im (.str s))) (hlo : ev T lo = some (.im (.int k l))) (hi : L t = some i) (hf : i.desc = .string) (h0 : 0 ≤ l) (h1 : l ≤ s.length) :
    o.wp P a w (After N w0 ok0 S0 T H o (val (.im (.str (s.drop l.toNat))))) Q := by
  refine go_val hc hN rfl rfl (v := .string ⟨(s.drop l.toNat).toArray⟩) ?_ (by simp only [RD, RM])
  simp only [execOp, ho, Instr.sliceAt, Instr.slice, rd_str hc h, Sem.run_bind, run_und hL hi, hf, Result.andThen_ok, Option.map_some, Option.map_none, Option.isSome_none, Instr.sliceBounds, Sem.run_pure, str_size, run_bound (rd_int hc hlo) h0 h1, extract_str]
  simp [List.take_of_length_le, str_size, run_bound (rd_int hc hlo) h0 h1, extract_str]
theorem s_sliceStrHi {t : Nat} {s : List UInt8} {x hi' : Operand} {k : IntKind} {h' : Int} {i : TI} (ho : o.op = .slice t x none (some hi') none) (h : ev T x = some (.im (.str s))) (hhi : ev T hi' = some (.im (.int k h'))) (hi : L t = some i) (hf : i.desc = .string) (h0 : 0 ≤ h') (h1 : h' ≤ s.length) :
    o.wp P a w (After N w0 ok0 S0 T H o (val (.im (.str (s.take h'.toNat))))) Q := by
  refine go_val hc hN rfl rfl (v := .string ⟨(s.take h'.toNat).toArray⟩) ?_ (by simp only [RD, RM])
  simp only [execOp, ho, Instr.sliceAt, Instr.slice, rd_str hc h, Sem.run_bind, run_und hL hi, hf, Result.andThen_ok, Option.map_some, Option.map_none, Option.isSome_none, Instr.sliceBounds, Sem.run_pure, str_size, run_bound (rd_int hc hhi) h0 h1, extract_str]
  simp [List.take_of_length_le, str_size, run_bound (rd_int hc hhi) h0 h1, extract_str]
theorem s_sliceStr {t : Nat} {s : List UInt8} {x lo hi' : Operand} {k k' : IntKind} {l h' : Int} {i : TI} (ho : o.op = .slice t x (some lo) (some hi') none) (h : ev T x = some (.im (.str s))) (hlo : ev T lo = some (.im (.int k l))) (hhi : ev T hi' = some (.im (.int k' h'))) (hi : L t = some i) (hf : i.desc = .string) (h0 : 0 ≤ l) (h1 : l ≤ h') (h2 : h' ≤ s.length) :
    o.wp P a w (After N w0 ok0 S0 T H o (val (.im (.str ((s.drop l.toNat).take (h'.toNat - l.toNat)))))) Q := by
  refine go_val hc hN rfl rfl (v := .string ⟨((s.drop l.toNat).take (h'.toNat - l.toNat)).toArray⟩) ?_ (by simp only [RD, RM])
  have hb1 := fun w => run_bound (w := w) (P := P) (y := s.length) (code := .sliceAlen) (rd_int hc hhi) (by omega) h2
  have hb2 := fun w => run_bound (w := w) (P := P) (y := h'.toNat) (code := .sliceB) (rd_int hc hlo) h0 (by omega)
  simp only [execOp, ho, Instr.sliceAt, Instr.slice, rd_str hc h, Sem.run_bind, run_und hL hi, hf, Result.andThen_ok, Option.map_some, Option.map_none, Option.isSome_none, Instr.sliceBounds, Sem.run_pure, str_size, extract_str]
  have e1 := hb1 w
  have e2 := hb2 w
  simp only [rd_int hc hhi, rd_int hc hlo] at e1 e2
  simp [rd_int hc hhi, rd_int hc hlo, str_size, e1, e2, extract_str]
end
end
end Fw

/-! ## FwI: A program logic over data: each operation's step holds in the model: all. -/
namespace Fw
open Go Go.RowKit
set_option linter.unusedVariables false
set_option linter.unusedSimpArgs false
set_option linter.unusedSectionVars false

theorem RMt.get {ok : Nat → Prop} {w : World} : ∀ {ms : List M} {vs : List Value} {i : Nat} {m : M}, RMt ok w ms vs → ms[i]? = some m → ∃ u, vs[i]? = some u ∧ RM ok w m u
  | [], vs, i, m, h, hi => by simp at hi
  | x :: ms, vs, 0, m, h, hi => by
    simp only [RMt] at h
    obtain ⟨u, us, rfl, h2, h3⟩ := h
    simp at hi; subst hi
    exact ⟨u, rfl, h2⟩
  | x :: ms, vs, i + 1, m, h, hi => by
    simp only [RMt] at h
    obtain ⟨u, us, rfl, h2, h3⟩ := h
    simp at hi
    simpa using RMt.get h3 hi
theorem RDt.get {β : Nat → Option Nat} {ok : Nat → Prop} {w : World} : ∀ {ms : List D} {vs : List Value} {i : Nat} {m : D}, RDt β ok w ms vs → ms[i]? = some m → ∃ u, vs[i]? = some u ∧ RD β ok w m u
  | [], vs, i, m, h, hi => by simp at hi
  | x :: ms, vs, 0, m, h, hi => by
    simp only [RDt] at h
    obtain ⟨u, us, rfl, h2, h3⟩ := h
    simp at hi; subst hi
    exact ⟨u, rfl, h2⟩
  | x :: ms, vs, i + 1, m, h, hi => by
    simp only [RDt] at h
    obtain ⟨u, us, rfl, h2, h3⟩ := h
    simp at hi
    simpa using RDt.get h3 hi

section
variable {P : Program} {L : Nat → Option TI} {N : Nat} {w0 : World} {ok0 S0 : Nat → Prop} {T : Nat → Option D} {H : Nat → Option O} {β : Nat → Option Nat} {ok : Nat → Prop} {a : Act} {w w' : World}
  {o : Oper} {Q : Exit → Act → World → Prop} {K : Act → World → Prop}

theorem go_int (hc : Conc N w0 ok0 S0 T H β ok a w) (hN : ∀ d, o.dst = some d → d < N) {k : IntKind} {n : Int} (hrun : (execOp a.eval o).run P w = .ok (.value (.int k n)) w) : o.wp P a w (After N w0 ok0 S0 T H o (val (.im (.int k n)))) Q :=
  go_val hc hN rfl rfl hrun (by simp only [RD, RM])
theorem go_bool (hc : Conc N w0 ok0 S0 T H β ok a w) (hN : ∀ d, o.dst = some d → d < N) {n : Bool} (hrun : (execOp a.eval o).run P w = .ok (.value (.bool n)) w) : o.wp P a w (After N w0 ok0 S0 T H o (val (.im (.bool n)))) Q :=
  go_val hc hN rfl rfl hrun (by simp only [RD, RM])

section
variable (hL : LayOk P L) (hc : Conc N w0 ok0 S0 T H β ok a w) (hN : ∀ d, o.dst = some d → d < N)
include hL hc hN

theorem s_sliceRow {t id n sz : Nat} {x hi' : Operand} {k : IntKind} {h' : Int} {i : TI} {e : Nat} (ho : o.op = .slice t x none (some hi') none) (h : ev T x = some (.row id n sz)) (hhi : ev T hi' = some (.im (.int k h'))) (hi : L t = some i) (hf : i.desc = .slice e) (hei : (L e).isSome) (h0 : 0 ≤ h') (h1 : h' ≤ n) :
    o.wp P a w (After N w0 ok0 S0 T H o (val (.row id h'.toNat sz))) Q := by
  obtain ⟨ei, hei⟩ := Option.isSome_iff_exists.1 hei
  rcases rd_row hc h with ⟨hv, rfl⟩ | ⟨b, cap, hb, hv, hnc, hcm, us, e', hh, hus⟩
  · obtain rfl : h' = 0 := by omega
    refine go_val hc hN rfl rfl (v := .slice none 0 0) ?_ (by simp [RD])
    have e1 := run_bound (w := w) (P := P) (y := 0) (code := .sliceAcap) (rd_int hc hhi) (by omega) (by omega)
    simp only [execOp, ho, Instr.sliceAt, Instr.slice, hv, Sem.run_bind, run_und hL hi, hf, Result.andThen_ok, Option.map_some, Option.map_none, Instr.sliceBounds, Sem.run_pure, e1, run_sizeOf hL hei]
    simp [e1, run_sizeOf hL hei]
  · have e1 := run_bound (w := w) (P := P) (y := cap) (code := .sliceAcap) (rd_int hc hhi) h0 (by omega)
    refine go_val hc hN rfl rfl (v := .slice (some ⟨b, 0, none⟩) h'.toNat cap) ?_ (by simp only [RD]; exact .inr ⟨b, cap, hb, rfl, by omega, hcm, us, e', hh, hus⟩)
    simp only [execOp, ho, Instr.sliceAt, Instr.slice, hv, Sem.run_bind, run_und hL hi, hf, Result.andThen_ok, Option.map_some, Option.map_none, Instr.sliceBounds, Sem.run_pure, e1, run_sizeOf hL hei]
    simp [e1, run_sizeOf hL hei, add_off]
theorem s_sliceSeqLo {t n : Nat} {cs : List M} {x lo : Operand} {k : IntKind} {l : Int} {i : TI} {e : Nat} {ei : TI} (ho : o.op = .slice t x (some lo) none none) (h : ev T x = some (.im (.seq n cs))) (hlo : ev T lo = some (.im (.int k l))) (hi : L t = some i) (hf : i.desc = .slice e) (hei : L e = some ei) (h0 : 0 ≤ l) (h1 : l ≤ n) (hcs : cs.length = n * ei.size) :
    o.wp P a w (After N w0 ok0 S0 T H o (val (.im (.seq (n - l.toNat) (cs.drop (l.toNat * ei.size)))))) Q := by
  obtain ⟨A, cap, hv, hnc, hcm, g3, g4, g5⟩ := rd_seq hc h
  have e1 := run_bound (w := w) (P := P) (y := n) (code := .sliceB) (rd_int hc hlo) h0 (by omega)
  refine go_val hc hN rfl rfl (v := .slice (if cap = l.toNat then A else A.map (·.add (l.toNat * ei.size))) (n - l.toNat) (cap - l.toNat)) ?_ ?_
  · simp only [execOp, ho, Instr.sliceAt, Instr.slice, hv, Sem.run_bind, run_und hL hi, hf, Result.andThen_ok, Option.map_some, Option.map_none, Instr.sliceBounds, Sem.run_pure, e1, run_sizeOf hL hei]
    simp [e1, run_sizeOf hL hei]
  · simp only [RD, RM]
    refine ⟨_, _, rfl, by omega, by omega, ?_, ?_, ?_⟩
    · intro hz
      rw [List.drop_eq_nil_of_le]
      rw [hcs]
      exact Nat.mul_le_mul_right _ (by omega)
    · intro hne
      have hne' : cs ≠ [] := by rintro rfl; simp at hne
      obtain ⟨b, off, rfl, hok⟩ := g4 hne'
      have : cap ≠ l.toNat := by
        intro hh
        apply hne
        rw [List.drop_eq_nil_of_le]
        rw [hcs]
        exact Nat.mul_le_mul_right _ (by omega)
      rw [if_neg this]
      exact ⟨b, off + l.toNat * ei.size, by simp [add_off], hok⟩
    · intro b off hA
      by_cases hcl : cap = l.toNat
      · rw [List.drop_eq_nil_of_le]
        · simp [RMc]
        · rw [hcs]; exact Nat.mul_le_mul_right _ (by omega)
      · rw [if_neg hcl] at hA
        cases A with
        | none => simp at hA
        | some ad =>
          obtain ⟨b', off', sp⟩ := ad
          by_cases hne : cs = []
          · subst hne; simp [RMc]
          · obtain ⟨b2, off2, h2, hok⟩ := g4 hne
            simp only [Option.some.injEq] at h2
            rw [h2] at hA
            simp only [Option.map_some, add_off, Option.some.injEq, Addr.mk.injEq, and_true] at hA
            obtain ⟨rfl, rfl⟩ := hA
            exact (g5 _ _ (by rw [h2])).drop _
theorem s_sliceSeqHi {t n : Nat} {cs : List M} {x hi' : Operand} {k : IntKind} {h' : Int} {i : TI} {e : Nat} {ei : TI} (ho : o.op = .slice t x none (some hi') none) (h : ev T x = some (.im (.seq n cs))) (hhi : ev T hi' = some (.im (.int k h'))) (hi : L t = some i) (hf : i.desc = .slice e) (hei : L e = some ei) (h0 : 0 ≤ h') (h1 : h' ≤ n) :
    o.wp P a w (After N w0 ok0 S0 T H o (val (.im (.seq h'.toNat (cs.take (h'.toNat * ei.size)))))) Q := by
  obtain ⟨A, cap, hv, hnc, hcm, g3, g4, g5⟩ := rd_seq hc h
  have e1 := run_bound (w := w) (P := P) (y := cap) (code := .sliceAcap) (rd_int hc hhi) h0 (by omega)
  have hA0 : (A.map (·.add 0)) = A := by cases A <;> simp [Addr.add]
  refine go_val hc hN rfl rfl (v := .slice A h'.toNat cap) ?_ ?_
  · simp only [execOp, ho, Instr.sliceAt, Instr.slice, hv, Sem.run_bind, run_und hL hi, hf, Result.andThen_ok, Option.map_some, Option.map_none, Instr.sliceBounds, Sem.run_pure, e1, run_sizeOf hL hei]
    simp [e1, run_sizeOf hL hei, hA0]
  · simp only [RD, RM]
    refine ⟨_, _, rfl, by omega, hcm, ?_, ?_, ?_⟩
    · intro hz; rw [hz]; simp
    · intro hne
      exact g4 (by rintro rfl; simp at hne)
    · intro b off hA
      exact (g5 b off hA).take _
theorem s_extractM {x : Operand} {k : Nat} {ms : List M} {m : M} (ho : o.op = .extract x k) (h : ev T x = some (.im (.tup ms))) (hm : ms[k]? = some m) : o.wp P a w (After N w0 ok0 S0 T H o (val (.im m))) Q := by
  have := ev_rd hc h
  simp only [RD, RM] at this
  obtain ⟨us, hv, hr⟩ := this
  obtain ⟨u, h1, h2⟩ := hr.get hm
  refine go_val hc hN rfl rfl (v := u) ?_ (by simpa only [RD] using h2)
  have h1' : us[k]? = some u := by rw [← Array.getElem?_toList]; exact h1
  simp only [execOp, ho, Instr.extract, hv, h1', Sem.run_bind, Sem.run_pure, Result.andThen_ok]
theorem s_extractD {x : Operand} {k : Nat} {ds : List D} {d : D} (ho : o.op = .extract x k) (h : ev T x = some (.tup ds)) (hm : ds[k]? = some d) : o.wp P a w (After N w0 ok0 S0 T H o (val d)) Q := by
  have := ev_rd hc h
  simp only [RD] at this
  obtain ⟨us, hv, hr⟩ := this
  obtain ⟨u, h1, h2⟩ := hr.get hm
  refine go_val hc hN rfl rfl (v := u) ?_ h2
  have h1' : us[k]? = some u := by rw [← Array.getElem?_toList]; exact h1
  simp only [execOp, ho, Instr.extract, hv, h1', Sem.run_bind, Sem.run_pure, Result.andThen_ok]
theorem s_func {f : Nat} {caps : Array Operand} {ds : List D} (ho : o.op = .makeFunc (.func f) #[] caps) (h : evL (ev T) caps.toList = some ds) : o.wp P a w (After N w0 ok0 S0 T H o (val (.fn f ds))) Q := by
  have := evL_rd hc h
  refine go_val hc hN rfl rfl (v := .func (.func f) #[] (caps.map a.eval)) ?_ (by simp only [RD]; exact ⟨_, rfl, by simpa using this⟩)
  simp only [execOp, ho, Instr.makeFunc, Sem.run_bind, Sem.run_pure, Result.andThen_ok, Array.map_empty]
theorem s_binInt {op : BinOp} {t t' : Nat} {x y : Operand} {k : IntKind} {p q : Int} {m : M} (ho : o.op = .binOp op t x y t') (h : ev T x = some (.im (.int k p))) (h' : ev T y = some (.im (.int k q))) (hm : intOp op k p q = some m) : o.wp P a w (After N w0 ok0 S0 T H o (val (.im m))) Q := by
  have h1 := rd_int hc h
  have h2 := rd_int hc h'
  cases op <;> simp only [intOp, Option.some.injEq, reduceCtorEq] at hm <;> subst hm
  all_goals
    first | refine go_int hc hN ?_ | refine go_bool hc hN ?_
    simp [execOp, ho, h1, h2, eqGuard, binOp, Op.intArith, Op.intCmp]
theorem s_binDiv {op : BinOp} {t t' : Nat} {x y : Operand} {k : IntKind} {p q : Int} {m : M} (ho : o.op = .binOp op t x y t') (h : ev T x = some (.im (.int k p))) (h' : ev T y = some (.im (.int k q))) (hm : divOp op k p q = some m) (h0 : q ≠ 0) : o.wp P a w (After N w0 ok0 S0 T H o (val (.im m))) Q := by
  have h1 := rd_int hc h
  have h2 := rd_int hc h'
  cases op <;> simp only [divOp, Option.some.injEq, reduceCtorEq] at hm <;> subst hm
  all_goals
    first | refine go_int hc hN ?_ | refine go_bool hc hN ?_
    simp [execOp, ho, h1, h2, eqGuard, binOp, Op.intDiv, h0]
theorem s_binStr {op : BinOp} {t t' : Nat} {x y : Operand} {p q : List UInt8} {m : M} (ho : o.op = .binOp op t x y t') (h : ev T x = some (.im (.str p))) (h' : ev T y = some (.im (.str q))) (hm : strOp op p q = some m) : o.wp P a w (After N w0 ok0 S0 T H o (val (.im m))) Q := by
  have h1 := rd_str hc h
  have h2 := rd_str hc h'
  cases op <;> simp only [strOp, Option.some.injEq, reduceCtorEq] at hm <;> subst hm
  all_goals
    first | refine go_int hc hN ?_ | refine go_bool hc hN ?_
    simp [execOp, ho, h1, h2, eqGuard, binOp, Op.stringOp, bytes_toList]
theorem s_addStr {t t' : Nat} {x y : Operand} {p q : List UInt8} (ho : o.op = .binOp .add t x y t') (h : ev T x = some (.im (.str p))) (h' : ev T y = some (.im (.str q))) (hl : p.length + q.length ≤ 9223372036854775807) : o.wp P a w (After N w0 ok0 S0 T H o (val (.im (.str (p ++ q))))) Q := by
  have h1 := rd_str hc h
  have h2 := rd_str hc h'
  refine go_val hc hN rfl rfl (v := .string ⟨(p ++ q).toArray⟩) ?_ (by simp only [RD, RM])
  have e1 : (⟨p.toArray⟩ ++ ⟨q.toArray⟩ : ByteArray) = ⟨(p ++ q).toArray⟩ := by
    apply ByteArray.ext
    simp
  have e2 : ¬ (((p.length + q.length : Nat) : Int) > IntKind.i64.max) := by
    have : IntKind.i64.max = 9223372036854775807 := by decide
    rw [this]; omega
  simp only [execOp, ho, h1, h2, eqGuard, binOp, Op.stringOp, str_size, e1, Sem.run_bind]
  rw [if_neg e2]
  simp
theorem s_binBool {op : BinOp} {t t' : Nat} {x y : Operand} {i : TI} {p q : Bool} {m : M} (ho : o.op = .binOp op t x y t') (h : ev T x = some (.im (.bool p))) (h' : ev T y = some (.im (.bool q))) (hi : L t = some i) (hf : i.desc = .bool) (hm : boolOp op p q = some m) : o.wp P a w (After N w0 ok0 S0 T H o (val (.im m))) Q := by
  have h1 := rd_bool hc h
  have h2 := rd_bool hc h'
  have hu := run_und (w := w) hL hi
  rw [hf] at hu
  have he : ∀ d : Nat, (Op.equalIn (d + 1) t (.bool p) (.bool q)).run P w = .ok (p == q) w := fun d => by
    simp only [Op.equalIn, Sem.run_bind, hu, Result.andThen_ok, Sem.run_pure]
  have he2 : (Op.equal t (.bool p) (.bool q)).run P w = .ok (p == q) w := he 9999
  cases op <;> simp only [boolOp, Option.some.injEq, reduceCtorEq] at hm <;> subst hm
  all_goals
    refine go_bool hc hN ?_
    simp only [execOp, ho, h1, h2, eqGuard, binOp, Sem.run_bind, he2, Sem.run_pure, Result.andThen_ok]
    simp [he2]
theorem s_not {t : Nat} {x : Operand} {b : Bool} (ho : o.op = .unOp .not t x) (h : ev T x = some (.im (.bool b))) : o.wp P a w (After N w0 ok0 S0 T H o (val (.im (.bool (!b))))) Q := by
  first | refine go_int hc hN ?_ | refine go_bool hc hN ?_
  simp [execOp, ho, rd_bool hc h, Op.unary]
theorem s_neg {t : Nat} {x : Operand} {k : IntKind} {n : Int} (ho : o.op = .unOp .neg t x) (h : ev T x = some (.im (.int k n))) : o.wp P a w (After N w0 ok0 S0 T H o (val (.im (.int k (k.wrap (0 - n)))))) Q := by
  first | refine go_int hc hN ?_ | refine go_bool hc hN ?_
  simp [execOp, ho, rd_int hc h, Op.unary, Op.intArith]
theorem s_convInt {s t : Nat} {x : Operand} {k0 k : IntKind} {n : Int} {is i : TI} (ho : o.op = .convert s t x) (h : ev T x = some (.im (.int k0 n))) (hs : L s = some is) (hi : L t = some i) (hf : i.desc = .int k) : o.wp P a w (After N w0 ok0 S0 T H o (val (.im (.int k (k.wrap n))))) Q := by
  first | refine go_int hc hN ?_ | refine go_bool hc hN ?_
  have h1 := rd_int hc h
  have hu := run_und (w := w) hL hi
  rw [hf] at hu
  simp only [execOp, ho, h1, convert, Sem.run_bind, run_und hL hs, hu, Result.andThen_ok]
  simp [Conv.intToInt]
theorem s_len {x : Operand} {t : Nat} {i : TI} {n : Nat} (ho : o.op = .call { callee := .builtin .len, args := #[x], argTypes := #[t] }) (hi : L t = some i) (hv : (i.desc = .string ∧ ∃ s : List UInt8, a.eval x = .string ⟨s.toArray⟩ ∧ s.length = n) ∨ ((∃ e, i.desc = .slice e) ∧ ∃ A c, a.eval x = .slice A n c)) :
    o.wp P a w (After N w0 ok0 S0 T H o (val (.im (.int .i64 n)))) Q := by
  refine go_val hc hN rfl rfl (v := .int .i64 n) ?_ (by simp only [RD, RM])
  have hu := run_und (w := w) hL hi
  rcases hv with ⟨hf, s, hv, rfl⟩ | ⟨⟨e, hf⟩, A, c, hv⟩
  · rw [hf] at hu
    simp [execOp, ho, resolve, invoke, builtin, hv, Builtin.len_, hu, goInt, str_size]
  · rw [hf] at hu
    simp [execOp, ho, resolve, invoke, builtin, hv, Builtin.len_, hu, goInt]
theorem s_call {x : Operand} {args : Array Operand} {ats : Array TypeId} {f : Nat} {ms : List M} {m : M} (ho : o.op = .call { callee := .value x, args := args, argTypes := ats }) (h : ev T x = some (.im (.fn f))) (hp : Plain P f) {ids : List Nat} (ha : evM (ev T) H args.toList = some (ms, ids)) (hr : Ret P f ms m) :
    o.wp P a w (After N w0 ok0 S0 T H o ⟨some (.im m), ids.map fun i => (i, none), [], ids⟩) Q := by
  have hx : a.eval x = .func (.func f) #[] #[] := by have := ev_rd hc h; simpa only [RD, RM] using this
  obtain ⟨fn, p1, p2, p3⟩ := hp
  have hrun : (execOp a.eval o).run P w = .ok (.enter f (args.map a.eval)) w := by
    simp only [execOp, ho, resolve, hx, Deferred.ofValue, Sem.run_bind, Sem.run_pure, Result.andThen_ok, invoke, callFunc, program, Sem.run, p1, p2, p3, Bool.false_eq_true, if_false]
    simp
  unfold Oper.wp
  rw [hrun]
  rw [Oper.upon_enter]
  have hargs : (args.map a.eval) = (args.toList.map a.eval).toArray := by
    apply Array.ext'
    simp
  rw [hargs]
  have hz := hc.freeze ids
  refine (hr _ w _ (evM_rm hc ha)).mono ?_
  rintro e w' ⟨v, rfl, h1, h2⟩
  simp only []
  have h3 := RM.mono (ok' := fun b => ((ok b ∨ ∃ i o, i ∈ ids ∧ H i = some o ∧ β i = some b) ∨ w.heap.size ≤ b) ∧ b < w'.heap.size) (w' := w') (fun b hb hlt => ⟨⟨hb, hlt⟩, rfl⟩) m v h1
  exact ⟨β, _, hz.call o.dst v _ hN h2 (fun d hd => by cases hd; simpa only [RD] using h3)⟩
theorem s_nilP {x : Operand} {id off : Nat} (ho : o.op = .nilCheck x) (h : ev T x = some (.ptr id off)) : o.wp P a w (After N w0 ok0 S0 T H o (val (.ptr id off))) Q := by
  obtain ⟨b, hb, hp⟩ := rd_ptr hc h
  refine go_val hc hN rfl rfl (v := a.eval x) ?_ (ev_rd hc h)
  simp only [execOp, ho, hp]; rfl
theorem s_nilE {x : Operand} {cs : List M} (ho : o.op = .nilCheck x) (h : ev T x = some (.ep cs)) : o.wp P a w (After N w0 ok0 S0 T H o (val (.ep cs))) Q := by
  obtain ⟨b, off, hp, _⟩ := rd_ep hc h
  refine go_val hc hN rfl rfl (v := a.eval x) ?_ (ev_rd hc h)
  simp only [execOp, ho, hp]; rfl

/-- each step of the logic holds in the model -/
theorem Step.sound {e : Eff} (hs : Step P L (ev T) H o.op o.dst o.type e) (hfr : ∀ id ∈ e.nw, Fresh T H id) : o.wp P a w (After N w0 ok0 S0 T H o e) Q := by
  generalize ho : o.op = op at hs
  generalize hd : o.dst = dst at hs
  generalize ht' : o.type = ty at hs
  cases hs with
  | move h => exact s_move hL hc hN (.inl ho) h
  | assign h => exact s_move hL hc hN (.inr ho) h
  | pick h h' => exact s_pick hL hc hN ho h h'
  | alloc h => exact s_alloc hL hc hN ho hd h (hfr _ (by simp))
  | box h hw => exact s_box hL hc hN ho hd h hw (hfr _ (by simp))
  | loadB h hg hi ha h5 => exact s_loadB hL hc hN ho h hg hi ha h5 rfl rfl
  | loadBA h hg hi ha h5 => exact s_loadBA hL hc hN ho h hg hi ha h5 rfl rfl
  | loadR h hg hi ha h5 => exact s_loadR hL hc hN ho h hg hi ha h5 rfl rfl
  | loadRA h hg hi ha h5 h0 => exact s_loadRA hL hc hN ho h hg hi ha h5 rfl rfl
  | loadE h hi ha h5 => exact s_loadE hL hc hN ho h hi ha h5
  | loadEA h hi ha h5 => exact s_loadEA hL hc hN ho h hi ha h5
  | storeB h hx hw hg hi hs hl => exact s_storeB hL hc hN ho h hx hw hg hi hs hl
  | storeR h hx hm hw hg hi hs hl h0 => exact s_storeR hL hc hN ho h hx hm hw hg hi hs hl h0
  | fieldP h hi hf hk hfi h0 => exact s_fieldP hL hc hN ho h hi hf hk hfi h0
  | fieldE h hi hf hk hfi h0 => exact s_fieldE hL hc hN ho h hi hf hk hfi h0
  | fieldM h hi hf hk hfi h0 h1 => exact s_fieldM hL hc hN ho h hi hf hk hfi h0 h1
  | fieldMA h hi hf hk hfi h0 => exact s_fieldMA hL hc hN ho h hi hf hk hfi h0
  | build hi hf ha hcs => exact s_build hL hc hN ho hi hf ha hcs
  | buildSlice hi hf hei h0 hl hcs => exact s_buildSlice hL hc hN ho hd hi hf hei h0 hl hcs (hfr _ (by simp))
  | indexR h hx hi hf hei hsz h0 h1 => exact s_indexR hL hc hN ho h hx hi hf hei hsz h0 h1
  | indexS h hx hi hf hei h0 h1 h2 => exact s_indexS hL hc hN ho h hx hi hf hei h0 h1 h2
  | indexStr h hx hi hf h0 hcc => exact s_indexStr hL hc hN ho h hx hi hf h0 hcc
  | sliceStrLo h hlo hi hf h0 h1 => exact s_sliceStrLo hL hc hN ho h hlo hi hf h0 h1
  | sliceStrHi h hlo hi hf h0 h1 => exact s_sliceStrHi hL hc hN ho h hlo hi hf h0 h1
  | sliceStr h hlo hhi hi hf h0 h1 h2 => exact s_sliceStr hL hc hN ho h hlo hhi hi hf h0 h1 h2
  | sliceRow h hhi hi hf hei h0 h1 => exact s_sliceRow hL hc hN ho h hhi hi hf hei h0 h1
  | sliceSeqLo h hlo hi hf hei h0 h1 hcs => exact s_sliceSeqLo hL hc hN ho h hlo hi hf hei h0 h1 hcs
  | sliceSeqHi h hlo hi hf hei h0 h1 => exact s_sliceSeqHi hL hc hN ho h hlo hi hf hei h0 h1
  | extractM h hm => exact s_extractM hL hc hN ho h hm
  | extractD h hm => exact s_extractD hL hc hN ho h hm
  | func h => exact s_func hL hc hN ho h
  | binInt h h' hm => exact s_binInt hL hc hN ho h h' hm
  | binDiv h h' hm h0 => exact s_binDiv hL hc hN ho h h' hm h0
  | binStr h h' hm => exact s_binStr hL hc hN ho h h' hm
  | addStr h h' hl => exact s_addStr hL hc hN ho h h' hl
  | binBool h h' hi hf hm => exact s_binBool hL hc hN ho h h' hi hf hm
  | not h => exact s_not hL hc hN ho h
  | neg h => exact s_neg hL hc hN ho h
  | convInt h hs hi hf => exact s_convInt hL hc hN ho h hs hi hf
  | lenStr h hi hf => exact s_len hL hc hN ho hi (.inl ⟨hf, _, rd_str hc h, rfl⟩)
  | lenSeq h hi hf => exact s_len hL hc hN ho hi (.inr ⟨⟨_, hf⟩, let ⟨A, c, hv, _⟩ := rd_seq hc h; ⟨A, c, hv⟩⟩)
  | lenNil h hi hf => exact s_len hL hc hN ho hi (.inr ⟨⟨_, hf⟩, none, 0, rd_nil hc h⟩)
  | lenRow h hi hf =>
    refine s_len hL hc hN ho hi (.inr ⟨⟨_, hf⟩, ?_⟩)
    rcases rd_row hc h with ⟨hv, rfl⟩ | ⟨b, cap, hb, hv, _⟩
    · exact ⟨none, 0, hv⟩
    · exact ⟨_, cap, hv⟩
  | append h hy hd' hg' hc' hi hf hei h0 hn hm hb hmx hrs => subst hc'; exact s_append hL hc hN ho hd h hy hd' hg' hi hf hei h0 hn hm hb hmx hrs (hfr _ (by simp))
  | appendNil h hy hd' hi hf hei h0 hm hb hmx hrs => exact s_appendNil hL hc hN ho hd h hy hd' hi hf hei h0 hm hb hmx hrs (hfr _ (by simp))
  | call h hp ha hr => exact s_call hL hc hN ho h hp ha hr
  | nilCheckP h => exact s_nilP hL hc hN ho h
  | nilCheckE h => exact s_nilE hL hc hN ho h
  | sem og hx hg ht hs => exact hs N w0 ok0 S0 T H β ok a w o Q hL hc hN ho hd ht' hx hg hfr
end
end
end Fw

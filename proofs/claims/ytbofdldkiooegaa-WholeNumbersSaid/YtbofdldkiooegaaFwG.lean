/- A program logic over data: append onto a row of the frame's own. -/
import Derived.Test.YtbofdldkiooegaaFwF
namespace Fw
open Go Go.RowKit
set_option linter.unusedVariables false
set_option linter.unusedSimpArgs false
set_option linter.unusedSectionVars false

section
variable {P : Program} {L : Nat → Option TI} {N : Nat} {w0 : World} {ok0 S0 : Nat → Prop} {T : Nat → Option D} {H : Nat → Option O} {β : Nat → Option Nat} {ok : Nat → Prop} {a : Act} {w w' : World}
  {o : Oper} {Q : Exit → Act → World → Prop} {K : Act → World → Prop}

/-- a slice value, and the cells that it shows -/
def Shows (w : World) (v : Value) (n size : Nat) (e : TypeId) (xs : List Value) : Prop :=
  (v = .slice none 0 0 ∧ n = 0 ∧ xs = []) ∨ ∃ g cap cur, v = .slice (some ⟨g, 0, none⟩) n cap ∧ w.heap[g]? = some (.cells cur e (0, 0)) ∧ n ≤ cap ∧ cap ≤ maxLen ∧ cur.size = cap * size ∧ cur.toList.take (n * size) = xs

/-- what an append comes to -/
inductive Came (w : World) (v : Value) (n m size : Nat) (e : TypeId) (xs vs : List Value) : Value → World → Prop
  | same (h : m = 0) (h' : vs = []) : Came w v n m size e xs vs v w
  | room {g cap : Nat} {cur cur' : Array Value} {w' : World} (hv : v = .slice (some ⟨g, 0, none⟩) n cap) (hg : w.heap[g]? = some (.cells cur e (0, 0))) (hr : n + m ≤ cap) (ht : Turned g w w') (hg' : w'.heap[g]? = some (.cells cur' e (0, 0)))
      (hs : cur'.size = cap * size) (hx : cur'.toList.take ((n + m) * size) = xs ++ vs) : Came w v n m size e xs vs (.slice (some ⟨g, 0, none⟩) (n + m) cap) w'
  | new {cap : Nat} {cur : Array Value} (hr : n + m ≤ cap) (hm : cap ≤ maxLen) (hs : cur.size = cap * size) (hx : cur.toList.take ((n + m) * size) = xs ++ vs) :
      Came w v n m size e xs vs (.slice (some ⟨w.heap.size, 0, none⟩) (n + m) cap) (w.drew.alloc (.cells cur e))

theorem run_append_src_nil (t ty e : TypeId) (i : TypeInfo) (ht : P.underlying t = some (.slice e)) (hi : P.info? e = some i) {v : Value} {n : Nat} {xs : List Value} (hv : Shows w v n i.size e xs) (c : Nat) :
    (Builtin.append_ #[t, t] ty #[v, .slice none 0 c]).run P w = .ok v w := by
  rcases hv with ⟨rfl, rfl, rfl⟩ | ⟨g, cap, cur, rfl, _, hnc, _⟩
  · simp [Builtin.append_, run_underlying ht, Go.sizeOf, typeInfo, hi, Builtin.lenOf, Builtin.firstCells]
  · simp [Builtin.append_, run_underlying ht, Go.sizeOf, typeInfo, hi, Builtin.lenOf, Builtin.firstCells, hnc, storeCells]

theorem run_append_all (t ty e : TypeId) (i : TypeInfo) (z : Value) (ht : P.underlying t = some (.slice e)) (hi : P.info? e = some i) (hz : i.zero = some z) (hzs : z.cells.size = i.size) (hsz : 0 < i.size)
    {v : Value} {n : Nat} {xs : List Value} (hv : Shows w v n i.size e xs) {A : Option Addr} {m c : Nat} {vs : List Value} (hl : vs.length = m * i.size) (h0 : A = none → m = 0)
    (hvs : ∀ ad, A = some ad → ∀ j u, vs[j]? = some u → w.cell? (ad.add j) = some u) (h1 : ∀ u ∈ vs, u.oneCell' = true) (h63 : n + m ≤ maxLen) (hb : (n + m) * i.bytes ≤ 140737488355328) :
    ∃ v' w', (Builtin.append_ #[t, t] ty #[v, .slice A m c]).run P w = .ok v' w' ∧ Came w v n m i.size e xs vs v' w' := by
  have hsmall : n + m ≤ 9223372036854775807 := by simp only [maxLen] at h63; omega
  cases A with
  | none =>
    have hm := h0 rfl
    subst hm
    have hn : vs = [] := List.eq_nil_of_length_eq_zero (by simpa using hl)
    exact ⟨v, w, run_append_src_nil t ty e i ht hi hv c, .same rfl hn⟩
  | some ad =>
    have hnews := hvs ad rfl
    have hxl : xs.length = n * i.size := by
      rcases hv with ⟨_, rfl, rfl⟩ | ⟨g, cap, cur, _, _, hnc, _, hcs, rfl⟩
      · simp
      · rw [List.length_take]
        have : n * i.size ≤ cap * i.size := Nat.mul_le_mul_right _ hnc
        simp; omega
    have hlen : (xs ++ vs).length = (n + m) * i.size := by rw [List.length_append, hxl, hl, Nat.add_mul]
    have grown : ∀ (old : Nat), old < n + m → Came w v n m i.size e xs vs (.slice (some ⟨w.heap.size, 0, none⟩) (n + m) (grownCap w (n + m) old e)) (w.drew.alloc (.cells (xs.toArray ++ vs.toArray ++ Builtin.zeroCells z.cells (grownCap w (n + m) old e - (n + m))) e)) := by
      intro old ho
      have hge := grownCap_ge w (n + m) old e
      have hcm : grownCap w (n + m) old e ≤ maxLen := grownCap_le_maxLen w (n + m) old e h63
      refine .new hge hcm ?_ ?_
      · simp only [Array.size_append, List.size_toArray, size_zeroCells, hzs, hxl, hl, ← Nat.add_mul]
        congr 1
        omega
      · simp only [Array.toList_append, List.append_assoc]
        rw [← List.append_assoc, ← hlen]
        exact List.take_left
    rcases hv with ⟨rfl, rfl, rfl⟩ | ⟨g, cap, cur, rfl, hg, hnc, hcm, hcs, htake⟩
    · by_cases hm : m = 0
      · subst hm
        have hn : vs = [] := List.eq_nil_of_length_eq_zero (by simpa using hl)
        subst hn
        refine ⟨.slice none 0 0, w, ?_, .same rfl rfl⟩
        simp [Builtin.append_, run_underlying ht, Go.sizeOf, typeInfo, hi, Builtin.lenOf, Builtin.firstCells, loadCells, loadCellsFrom]
      · have hr := run_append_nil (P := P) w t ty e i z ht hi hz ad m c vs hl hnews (by omega) (by omega) (by have hb := hb; simp only [Nat.zero_add] at hb; omega)
        have hgr := grown 0 (by omega)
        simp only [Nat.zero_add, List.nil_append, Array.empty_append] at hgr
        exact ⟨_, _, hr, hgr⟩
    · by_cases hroom : n + m ≤ cap
      · have hfit : n * i.size + vs.length ≤ cur.size := by rw [hl, hcs, ← Nat.add_mul]; exact Nat.mul_le_mul_right _ hroom
        have hr := run_append_room (P := P) w t ty e i ht hi g n cap cur hg ad m c vs hl hnews h1 hroom hfit
        have hsz' : (cur.toList.take (n * i.size) ++ vs ++ cur.toList.drop (n * i.size + vs.length)).toArray.size = cur.size := by
          simp only [List.size_toArray, List.length_append, List.length_take, List.length_drop, Array.length_toList]
          omega
        refine ⟨_, _, hr, .room rfl hg hroom ⟨rfl, rfl, rfl, by simp, fun k hk => setRow_other w g k _ hk, fun us e' h => ?_⟩ (setRow_heap w g cur _ e _ hg) (by rw [hsz', hcs]) ?_⟩
        · rw [hg] at h
          simp only [Option.some.injEq, Obj.cells.injEq] at h
          obtain ⟨rfl, rfl, _⟩ := h
          exact ⟨_, _, setRow_heap w g cur _ e _ hg, hsz'⟩
        · rw [htake, ← hlen]
          exact List.take_left
      · have holds : ∀ j u, xs[j]? = some u → w.cell? ((⟨g, 0, none⟩ : Addr).add j) = some u := by
          intro j u hj
          rw [add_off, Nat.zero_add, cell_get hg, ← Array.getElem?_toList]
          rw [← htake, List.getElem?_take] at hj
          split at hj
          · exact hj
          · cases hj
        have hr := run_append_grow (P := P) w t ty e i z ht hi hz ⟨g, 0, none⟩ n cap xs hxl holds ad m c vs hl hnews (by omega) (by omega) (growslice_fits (by omega) hb)
        exact ⟨_, _, hr, grown cap (by omega)⟩

theorem RMs.of_take {ms : List M} {us : List Value} {n : Nat} (h : RMs ok w ms (us.take n)) (hl : n ≤ us.length) : ms.length = n := by
  have := h.length; simp at this; omega

/-- the claims behind an append -/
theorem Conc.append (hc : Conc N w0 ok0 S0 T H β ok a w) (dst : Option Nat) (hd : ∀ d, dst = some d → d < N) {v v' : Value} {n m size : Nat} {e : TypeId} {xs vs : List Value} {cs news : List M} (hv : Shows w v n size e xs) (hcame : Came w v n m size e xs vs v' w')
    (hcs : RMs ok w cs xs) (hnews : RMs ok w news vs) (hm : vs.length = m * size) (hxl : xs.length = n * size) {id id0 : Nat} (hf : Fresh T H id) (H' : Nat → Option O) (hH' : ∀ i o', H' i = some o' → (i = id ∧ o' = .rw e size (cs ++ news)) ∨ (i ≠ id ∧ i ≠ id0 ∧ H i = some o'))
    (hown : ∀ g n' cap, v = .slice (some ⟨g, 0, none⟩) n' cap → β id0 = some g ∧ ∃ o0, H id0 = some o0) :
    ∃ β', Conc N w0 ok0 S0 (putT T dst (some (.row id (n + m) size))) H' β' ok (a.put dst v') w' := by
  have hne : ∀ b i, i ≠ id → updβ β id b i = β i := fun b i h => by unfold updβ; rw [if_neg h]
  have hid : ∀ b, updβ β id b id = b := fun b => by unfold updβ; rw [if_pos rfl]
  have hcl : cs.length = n * size := by rw [hcs.length, hxl]
  have hnl : news.length = m * size := by rw [hnews.length, hm]
  have htot : (cs ++ news).length = (n + m) * size := by rw [List.length_append, hcl, hnl, Nat.add_mul]
  cases hcame with
  | same h h' =>
    subst h
    subst h'
    have hn : news = [] := List.eq_nil_of_length_eq_zero (by rw [hnl]; simp)
    subst hn
    have hnames : ∀ b is, id ∉ is → Names β (updβ β id b) w w is := fun b is hi => ⟨fun i b' hi' hb' => by rw [hne _ i (by rintro rfl; exact hi hi')]; exact hb', fun i b us e _ _ h => ⟨us, e, h, rfl⟩⟩
    rcases hv with ⟨rfl, rfl, rfl⟩ | ⟨g, cap, cur, rfl, hg, hnc, hcm, hcsz, htake⟩
    · have hcn : cs = [] := List.eq_nil_of_length_eq_zero (by rw [hcl]; simp)
      subst hcn
      refine ⟨updβ β id none, hc.step dst _ _ hd (Stays.refl ok w) (fun i d h => hnames _ _ (hf.1 i d h)) ?_ ?_ ?_ ?_ hc.okl hc.okf ?_ hc.keep⟩
      · intro d h
        simp only [Option.some.injEq] at h; subst h
        simp [RD]
      · intro i o' h
        rcases hH' i o' h with ⟨rfl, rfl⟩ | ⟨h1, h2, h3⟩
        · simp only [RO]; exact .inl ⟨hid _, by simp⟩
        · exact RO.mono (Stays.refl ok w) (hnames _ _ (hf.2 i o' h3).2) (hne _ i h1) (fun _ _ => rfl) (hc.obj i o' h3)
      · intro i j o1 o2 b h1 h2 h3 h4
        rcases hH' i o1 h1 with ⟨rfl, rfl⟩ | ⟨g1, g2, g3⟩
        · rw [hid] at h3; cases h3
        · rcases hH' j o2 h2 with ⟨rfl, rfl⟩ | ⟨k1, k2, k3⟩
          · rw [hid] at h4; cases h4
          · rw [hne _ i g1] at h3; rw [hne _ j k1] at h4; exact hc.inj i j o1 o2 b g3 k3 h3 h4
      · intro b hb i o' h
        rcases hH' i o' h with ⟨rfl, rfl⟩ | ⟨h1, h2, h3⟩
        · rw [hid]; simp
        · rw [hne _ i h1]; exact hc.okd b hb i o' h3
      · intro i o' b h hb
        rcases hH' i o' h with ⟨rfl, rfl⟩ | ⟨h1, h2, h3⟩
        · rw [hid] at hb; cases hb
        · rw [hne _ i h1] at hb; exact hc.low i o' b h3 hb
    · obtain ⟨hb0, o0, hlive⟩ := hown g n cap rfl
      refine ⟨updβ β id (some g), hc.step dst _ _ hd (Stays.refl ok w) (fun i d h => hnames _ _ (hf.1 i d h)) ?_ ?_ ?_ ?_ hc.okl hc.okf ?_ hc.keep⟩
      · intro d h
        simp only [Option.some.injEq] at h; subst h
        simp only [RD]; exact .inr ⟨g, cap, hid _, rfl, hnc, hcm, cur, e, hg, hcsz⟩
      · intro i o' h
        rcases hH' i o' h with ⟨rfl, rfl⟩ | ⟨h1, h2, h3⟩
        · simp only [RO]
          refine .inr ⟨g, cur, cap, hid _, hg, hcsz, hcm, ?_, ?_⟩
          · rw [htot, hcsz]; exact Nat.mul_le_mul_right _ hnc
          · rw [htot, Nat.add_zero, htake, List.append_nil]; exact hcs
        · exact RO.mono (Stays.refl ok w) (hnames _ _ (hf.2 i o' h3).2) (hne _ i h1) (fun _ _ => rfl) (hc.obj i o' h3)
      · intro i j o1 o2 b h1 h2 h3 h4
        rcases hH' i o1 h1 with ⟨rfl, rfl⟩ | ⟨g1, g2, g3⟩
        · rcases hH' j o2 h2 with ⟨rfl, rfl⟩ | ⟨k1, k2, k3⟩
          · rfl
          · rw [hid] at h3; cases h3
            rw [hne _ j k1] at h4
            exact absurd (hc.inj j id0 o2 o0 _ k3 hlive h4 hb0) k2
        · rcases hH' j o2 h2 with ⟨rfl, rfl⟩ | ⟨k1, k2, k3⟩
          · rw [hid] at h4; cases h4
            rw [hne _ i g1] at h3
            exact absurd (hc.inj i id0 o1 o0 _ g3 hlive h3 hb0) g2
          · rw [hne _ i g1] at h3; rw [hne _ j k1] at h4; exact hc.inj i j o1 o2 b g3 k3 h3 h4
      · intro b hb i o' h
        rcases hH' i o' h with ⟨rfl, rfl⟩ | ⟨h1, h2, h3⟩
        · rw [hid]; intro he; cases he; exact hc.okd _ hb id0 o0 hlive hb0
        · rw [hne _ i h1]; exact hc.okd b hb i o' h3
      · intro i o' b h hb
        rcases hH' i o' h with ⟨rfl, rfl⟩ | ⟨h1, h2, h3⟩
        · rw [hid] at hb; cases hb; exact hc.low id0 o0 _ hlive hb0
        · rw [hne _ i h1] at hb; exact hc.low i o' b h3 hb
  | @room g cap cur cur' w' hv' hg hr ht hg' hs hx =>
    obtain ⟨hb0, o0, hlive⟩ := hown g n cap hv'
    have hnames : ∀ is, id ∉ is → Names β (updβ β id (some g)) w w' is := fun is hi =>
      ⟨fun i b' hi' hb' => by rw [hne _ i (by rintro rfl; exact hi hi')]; exact hb', (ht.names (β := β) is).rows⟩
    have hcm : cap ≤ maxLen := by
      rcases hv with ⟨h, _⟩ | ⟨g', cap', cur'', h, _, _, h2, _⟩
      · rw [hv'] at h; cases h
      · rw [hv'] at h; cases h; exact h2
    have hst : Stays ok ok w w' := fun b' hb' _ => ⟨hb', ht.block b' (by rintro rfl; exact hc.okd b' hb' id0 o0 hlive hb0)⟩
    refine ⟨updβ β id (some g), hc.step dst _ _ hd hst (fun i d h => hnames _ (hf.1 i d h)) ?_ ?_ ?_ ?_ (fun b hb => by rw [ht.size]; exact hc.okl b hb) hc.okf ?_ ?_⟩
    · intro d h
      simp only [Option.some.injEq] at h; subst h
      simp only [RD]; exact .inr ⟨g, cap, hid _, rfl, hr, hcm, cur', e, hg', hs⟩
    · intro i o' h
      rcases hH' i o' h with ⟨rfl, rfl⟩ | ⟨h1, h2, h3⟩
      · simp only [RO]
        refine .inr ⟨g, cur', cap, hid _, hg', hs, hcm, ?_, ?_⟩
        · rw [htot, hs]; exact Nat.mul_le_mul_right _ hr
        · rw [htot, hx]; exact (RMs.mono hst _ _ hcs).append (RMs.mono hst _ _ hnews)
      · exact RO.mono hst (hnames _ (hf.2 i o' h3).2) (hne _ i h1) (fun b hb => ht.block b (by rintro rfl; exact h2 (hc.inj i id0 o' o0 b h3 hlive hb hb0))) (hc.obj i o' h3)
    · intro i j o1 o2 b h1 h2 h3 h4
      rcases hH' i o1 h1 with ⟨rfl, rfl⟩ | ⟨g1, g2, g3⟩
      · rcases hH' j o2 h2 with ⟨rfl, rfl⟩ | ⟨k1, k2, k3⟩
        · rfl
        · rw [hid] at h3; cases h3
          rw [hne _ j k1] at h4
          exact absurd (hc.inj j id0 o2 o0 _ k3 hlive h4 hb0) k2
      · rcases hH' j o2 h2 with ⟨rfl, rfl⟩ | ⟨k1, k2, k3⟩
        · rw [hid] at h4; cases h4
          rw [hne _ i g1] at h3
          exact absurd (hc.inj i id0 o1 o0 _ g3 hlive h3 hb0) g2
        · rw [hne _ i g1] at h3; rw [hne _ j k1] at h4; exact hc.inj i j o1 o2 b g3 k3 h3 h4
    · intro b hb i o' h
      rcases hH' i o' h with ⟨rfl, rfl⟩ | ⟨h1, h2, h3⟩
      · rw [hid]; intro he; cases he; exact hc.okd _ hb id0 o0 hlive hb0
      · rw [hne _ i h1]; exact hc.okd b hb i o' h3
    · intro i o' b h hb
      rcases hH' i o' h with ⟨rfl, rfl⟩ | ⟨h1, h2, h3⟩
      · rw [hid] at hb; cases hb; exact hc.low id0 o0 _ hlive hb0
      · rw [hne _ i h1] at hb; exact hc.low i o' b h3 hb
    · refine ⟨ht.os.trans hc.keep.os, ht.tape.trans hc.keep.tape, ht.output.trans hc.keep.output, by rw [ht.size]; exact hc.keep.size, fun k hk hS => ?_⟩
      rw [ht.block k ?_]
      · exact hc.keep.block k hk hS
      · rintro rfl
        rcases hc.low id0 o0 k hlive hb0 with h1 | h1
        · omega
        · exact hS h1
  | @new cap cur hr hcm hs hx =>
    have hold : ∀ k, k < w.heap.size → (w.drew.alloc (.cells cur e)).heap[k]? = w.heap[k]? := fun k hk => push_get w.drew _ k hk
    have hnewb : (w.drew.alloc (.cells cur e)).heap[w.heap.size]? = some (.cells cur e (0, 0)) := push_new w.drew _
    have hst : Stays ok ok w (w.drew.alloc (.cells cur e)) := fun b' hb' hlt => ⟨hb', hold b' hlt⟩
    have hnames : ∀ is, id ∉ is → Names β (updβ β id (some w.heap.size)) w (w.drew.alloc (.cells cur e)) is := fun is hi =>
      ⟨fun i b' hi' hb' => by rw [hne _ i (by rintro rfl; exact hi hi')]; exact hb', fun i b us e' _ _ h => ⟨us, e', by rw [hold b (heap_lt h)]; exact h, rfl⟩⟩
    refine ⟨updβ β id (some w.heap.size), hc.step dst _ _ hd hst (fun i d h => hnames _ (hf.1 i d h)) ?_ ?_ ?_ ?_ (fun b hb => by have := hc.okl b hb; simp; omega) hc.okf ?_ ?_⟩
    · intro d h
      simp only [Option.some.injEq] at h; subst h
      simp only [RD]; exact .inr ⟨w.heap.size, cap, hid _, rfl, hr, hcm, cur, e, hnewb, hs⟩
    · intro i o' h
      rcases hH' i o' h with ⟨rfl, rfl⟩ | ⟨h1, h2, h3⟩
      · simp only [RO]
        refine .inr ⟨w.heap.size, cur, cap, hid _, hnewb, hs, hcm, ?_, ?_⟩
        · rw [htot, hs]; exact Nat.mul_le_mul_right _ hr
        · rw [htot, hx]; exact (RMs.mono hst _ _ hcs).append (RMs.mono hst _ _ hnews)
      · exact RO.mono hst (hnames _ (hf.2 i o' h3).2) (hne _ i h1) (fun b hb => hold b (RO.block (hc.obj i o' h3) hb)) (hc.obj i o' h3)
    · intro i j o1 o2 b h1 h2 h3 h4
      rcases hH' i o1 h1 with ⟨rfl, rfl⟩ | ⟨g1, g2, g3⟩
      · rcases hH' j o2 h2 with ⟨rfl, rfl⟩ | ⟨k1, k2, k3⟩
        · rfl
        · rw [hid] at h3; cases h3
          rw [hne _ j k1] at h4
          have := RO.block (hc.obj j o2 k3) h4
          omega
      · rcases hH' j o2 h2 with ⟨rfl, rfl⟩ | ⟨k1, k2, k3⟩
        · rw [hid] at h4; cases h4
          rw [hne _ i g1] at h3
          have := RO.block (hc.obj i o1 g3) h3
          omega
        · rw [hne _ i g1] at h3; rw [hne _ j k1] at h4; exact hc.inj i j o1 o2 b g3 k3 h3 h4
    · intro b hb i o' h
      rcases hH' i o' h with ⟨rfl, rfl⟩ | ⟨h1, h2, h3⟩
      · rw [hid]; have := hc.okl b hb; intro he; cases he; omega
      · rw [hne _ i h1]; exact hc.okd b hb i o' h3
    · intro i o' b h hb
      rcases hH' i o' h with ⟨rfl, rfl⟩ | ⟨h1, h2, h3⟩
      · rw [hid] at hb; cases hb; exact .inl hc.keep.size
      · rw [hne _ i h1] at hb; exact hc.low i o' b h3 hb
    · exact ⟨hc.keep.os, hc.keep.tape, hc.keep.output, Nat.le_trans hc.keep.size (by simp), fun k hk hS => by rw [hold k (Nat.lt_of_lt_of_le hk hc.keep.size)]; exact hc.keep.block k hk hS⟩

/-- what is appended, in memory -/
theorem News.src (hc : Conc N w0 ok0 S0 T H β ok a w) {d : D} {m size : Nat} {news : List M} {js : List Nat} {v : Value} (hd : News H d m news js) (hr : RD β ok w d v) (hm : news.length = m * size) (h0 : 0 < size) (hrs : ∀ id n sz, d = .row id n sz → sz = size) :
    ∃ A c vs, v = .slice A m c ∧ RMs ok w news vs ∧ (A = none → m = 0) ∧ ∀ ad, A = some ad → ∀ j u, vs[j]? = some u → w.cell? (ad.add j) = some u := by
  cases hd with
  | nil =>
    simp only [RD, RM] at hr
    exact ⟨none, 0, [], hr, by simp [RMs], fun _ => rfl, by simp⟩
  | seq =>
    simp only [RD, RM] at hr
    obtain ⟨A, cap, rfl, _, _, h3, h4, h5⟩ := hr
    by_cases hn : news = []
    · subst hn
      refine ⟨A, cap, [], rfl, by simp [RMs], fun _ => ?_, by simp⟩
      rcases Nat.eq_zero_or_pos m with h | h
      · exact h
      · have := Nat.mul_pos h h0
        simp only [List.length_nil] at hm
        omega
    · obtain ⟨b, off, rfl, _⟩ := h4 hn
      obtain ⟨vs, g1, g2, g3⟩ := (h5 b off rfl).vals
      refine ⟨_, cap, vs, rfl, g3, (fun h => by cases h), ?_⟩
      intro ad had j u hu
      cases had
      rw [add_off]
      exact g2 j u hu
  | @row id n sz e cs h hl =>
    obtain rfl := hrs id m sz rfl
    simp only [RD] at hr
    rcases hr with ⟨rfl, rfl⟩ | ⟨b, cap, hb, rfl, hnc, hcm, us, e', hh, hus⟩
    · exact ⟨none, 0, [], rfl, by simp [RMs], fun _ => rfl, by simp⟩
    · obtain ⟨us', cap', h1, h2, h3, h4, h5⟩ := rd_rw hc h hb
      have h6 := h5.take (m * sz)
      rw [List.take_take, show min (m * sz) cs.length = m * sz by omega] at h6
      refine ⟨_, cap, _, rfl, h6, (fun h => by cases h), ?_⟩
      intro ad had j u hu
      cases had
      rw [add_off, Nat.zero_add, cell_get h1, ← Array.getElem?_toList]
      rw [List.getElem?_take] at hu
      split at hu
      · exact hu
      · cases hu

section
variable (hL : LayOk P L) (hc : Conc N w0 ok0 S0 T H β ok a w) (hN : ∀ d, o.dst = some d → d < N)
include hL hc hN

theorem s_append {x y : Operand} {t : Nat} {i : TI} {e : Nat} {ei : TI} {id0 n m : Nat} {cs news : List M} {js : List Nat} {d : D} {id : Nat} (ho : o.op = .call { callee := .builtin .append, args := #[x, y], argTypes := #[t, t] }) (hdst : o.dst = some id)
    (h : ev T x = some (.row id0 n ei.size)) (hy : ev T y = some d) (hd : News H d m news js) (hg : H id0 = some (.rw e ei.size cs)) (hi : L t = some i) (hf : i.desc = .slice e) (hei : L e = some ei) (h0 : 0 < ei.size)
    (hn : n * ei.size ≤ cs.length) (hm : news.length = m * ei.size) (hb : (n + m) * ei.bytes ≤ 140737488355328) (hmx : n + m ≤ 9223372036854775807) (hrs : ∀ id n sz, d = .row id n sz → sz = ei.size) (hfr : Fresh T H id) :
    o.wp P a w (After N w0 ok0 S0 T H o ⟨some (.row id (n + m) ei.size), [(id, some (.rw e ei.size (cs.take (n * ei.size) ++ news))), (id0, none)], [id], id0 :: js⟩) Q := by
  obtain ⟨hu, _⟩ := hL t i hi
  obtain ⟨_, ⟨inf, q1, q2, q3, q4⟩, _, _, q5⟩ := hL e ei hei
  have hrx := ev_rd hc h
  obtain ⟨A, c, vs, hyv, hvs, hA, hcells⟩ := hd.src hc (ev_rd hc hy) hm h0 hrs
  have hvl : vs.length = m * ei.size := by rw [← hvs.length, hm]
  have hshow : ∃ xs, Shows w (a.eval x) n ei.size e xs ∧ RMs ok w (cs.take (n * ei.size)) xs ∧ xs.length = n * ei.size ∧ ∀ g n' cap, a.eval x = .slice (some ⟨g, 0, none⟩) n' cap → β id0 = some g ∧ ∃ o0, H id0 = some o0 := by
    simp only [RD] at hrx
    rcases hrx with ⟨hv, rfl⟩ | ⟨b, cap, hbb, hv, hnc, hcm, us, e', hh, hus⟩
    · exact ⟨[], .inl ⟨hv, rfl, rfl⟩, by simp [RMs], by simp, fun g n' cap h => by rw [hv] at h; cases h⟩
    · obtain ⟨us', cap', h1, h2, h3, h4, h5⟩ := rd_rw hc hg hbb
      have h6 := h5.take (n * ei.size)
      rw [List.take_take, show min (n * ei.size) cs.length = n * ei.size by omega] at h6
      rw [hh] at h1
      simp only [Option.some.injEq, Obj.cells.injEq] at h1
      obtain ⟨rfl, rfl, _⟩ := h1
      refine ⟨_, .inr ⟨b, cap, us, hv, hh, hnc, hcm, hus, rfl⟩, h6, by simp; omega, fun g n' cap' h => ?_⟩
      rw [hv] at h; cases h
      exact ⟨hbb, _, hg⟩
  obtain ⟨xs, hs1, hs2, hs3, hs4⟩ := hshow
  obtain ⟨v', w', hrun, hcame⟩ := run_append_all (P := P) t o.type e inf ei.zero (by rw [hu, hf]) q1 q4 (by rw [q2]; exact q5) (by rw [q2]; exact h0) (by rw [q2]; exact hs1) (A := A) (m := m) (c := c) (by rw [q2]; exact hvl) hA hcells hvs.one (by unfold maxLen; exact hmx) (by rw [q3]; exact hb)
  rw [q2] at hcame
  refine wp_val (v := v') (w' := w') ?_ ?_
  · simp only [execOp, ho, resolve, invoke, builtin, Sem.run_bind, Sem.run_pure, Result.andThen_ok, List.map_toArray, List.map_cons, List.map_nil, hyv, hrun]
  · have hH' : ∀ j o', chH H [(id, some (.rw e ei.size (cs.take (n * ei.size) ++ news))), (id0, none)] j = some o' → (j = id ∧ o' = .rw e ei.size (cs.take (n * ei.size) ++ news)) ∨ (j ≠ id ∧ j ≠ id0 ∧ H j = some o') := by
      intro j o' hj
      simp only [chH] at hj
      by_cases h1 : id = j
      · rw [if_pos h1] at hj
        exact .inl ⟨h1.symm, by simpa using hj.symm⟩
      · rw [if_neg h1] at hj
        by_cases h2 : id0 = j
        · rw [if_pos h2] at hj; cases hj
        · rw [if_neg h2] at hj; exact .inr ⟨fun h => h1 h.symm, fun h => h2 h.symm, hj⟩
    obtain ⟨β', hβ'⟩ := hc.append o.dst hN hs1 hcame hs2 hvs hvl hs3 hfr _ (id0 := id0) hH' hs4
    exact ⟨β', ok, hβ'⟩

theorem s_appendNil {x y : Operand} {t : Nat} {i : TI} {e : Nat} {ei : TI} {m : Nat} {news : List M} {js : List Nat} {d : D} {id : Nat} (ho : o.op = .call { callee := .builtin .append, args := #[x, y], argTypes := #[t, t] }) (hdst : o.dst = some id)
    (h : ev T x = some (.im .nil)) (hy : ev T y = some d) (hd : News H d m news js) (hi : L t = some i) (hf : i.desc = .slice e) (hei : L e = some ei) (h0 : 0 < ei.size)
    (hm : news.length = m * ei.size) (hb : m * ei.bytes ≤ 140737488355328) (hmx : m ≤ 9223372036854775807) (hrs : ∀ id n sz, d = .row id n sz → sz = ei.size) (hfr : Fresh T H id) :
    o.wp P a w (After N w0 ok0 S0 T H o ⟨some (.row id m ei.size), [(id, some (.rw e ei.size news))], [id], js⟩) Q := by
  obtain ⟨hu, _⟩ := hL t i hi
  obtain ⟨_, ⟨inf, q1, q2, q3, q4⟩, _, _, q5⟩ := hL e ei hei
  obtain ⟨A, c, vs, hyv, hvs, hA, hcells⟩ := hd.src hc (ev_rd hc hy) hm h0 hrs
  have hvl : vs.length = m * ei.size := by rw [← hvs.length, hm]
  have hs1 : Shows w (a.eval x) 0 ei.size e [] := .inl ⟨rd_nil hc h, rfl, rfl⟩
  obtain ⟨v', w', hrun, hcame⟩ := run_append_all (P := P) t o.type e inf ei.zero (by rw [hu, hf]) q1 q4 (by rw [q2]; exact q5) (by rw [q2]; exact h0) (by rw [q2]; exact hs1) (A := A) (m := m) (c := c) (by rw [q2]; exact hvl) hA hcells hvs.one (by unfold maxLen; omega) (by rw [q3, Nat.zero_add]; exact hb)
  rw [q2] at hcame
  refine wp_val (v := v') (w' := w') ?_ ?_
  · simp only [execOp, ho, resolve, invoke, builtin, Sem.run_bind, Sem.run_pure, Result.andThen_ok, List.map_toArray, List.map_cons, List.map_nil, hyv, hrun]
  · have hH' : ∀ j o', chH H [(id, some (.rw e ei.size news))] j = some o' → (j = id ∧ o' = .rw e ei.size ([] ++ news)) ∨ (j ≠ id ∧ j ≠ id ∧ H j = some o') := by
      intro j o' hj
      simp only [chH] at hj
      by_cases h1 : id = j
      · rw [if_pos h1] at hj
        exact .inl ⟨h1.symm, by simpa using hj.symm⟩
      · rw [if_neg h1] at hj
        exact .inr ⟨fun h => h1 h.symm, fun h => h1 h.symm, hj⟩
    obtain ⟨β', hβ'⟩ := hc.append o.dst hN hs1 hcame (cs := []) (by simp [RMs]) hvs hvl (by simp) hfr _ (id0 := id) hH' (fun g n' cap hv => by rw [rd_nil hc h] at hv; cases hv)
    rw [Nat.zero_add] at hβ'
    exact ⟨β', ok, hβ'⟩
end
end
end Fw

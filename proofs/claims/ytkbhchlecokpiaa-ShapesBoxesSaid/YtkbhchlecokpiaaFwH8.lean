/- The chapter's networks and queries; its examples. Printed by gen/gen_h8.py. -/
import Derived.Test.YtkbhchlecokpiaaFwH7
import Derived.Test.YtkbhchlecokpiaaFwCl
namespace Go.Proofs.Ytkbhchlecokpiaa
open Go Go.RowKit Fw Tw Rat
set_option linter.unusedVariables false
set_option linter.unusedSimpArgs false
theorem hle_rmc {ok : Nat → Prop} {w : World} {b : Nat} {ms ms' : List M} (h : LeL ms ms') : ∀ {off : Nat}, RMc ok w b off ms → RMc ok w b off ms' := by
  induction h with
  | nil => intro off h; exact h
  | cons h hs ih =>
    intro off hr
    simp only [RMc] at hr ⊢
    obtain ⟨⟨u, h1, h2, h3⟩, h4⟩ := hr
    exact ⟨⟨u, h1, h2, h _ _ _ h3⟩, ih h4⟩
theorem hle_nil {ms ms' : List M} (h : LeL ms ms') : ms = [] ↔ ms' = [] := by
  cases h <;> simp
theorem hle_seq {n : Nat} {ms ms' : List M} (h : LeL ms ms') : Le (.seq n ms) (.seq n ms') := by
  intro ok w v hr
  simp only [RM] at hr ⊢
  obtain ⟨a, cap, h1, h2, h3, h4, h5, h6⟩ := hr
  exact ⟨a, cap, h1, h2, h3, fun hn => (hle_nil h).1 (h4 hn), fun hne => h5 fun e => hne ((hle_nil h).1 e), fun b off e => hle_rmc h (h6 b off e)⟩
theorem vq_nm (q : Rat) : vq (nmQ q) = q := by
  obtain ⟨k, h1, h2, h3⟩ : ∃ k, q.num.natAbs < W ^ k ∧ q.den < W ^ k ∧ 1 ≤ k := by
    refine ⟨q.num.natAbs + q.den + 1, ?_, ?_, by omega⟩
    · exact Nat.lt_of_le_of_lt (by omega) (Nat.lt_of_lt_of_le (Nat.lt_pow_self W_two) (Nat.le_refl _))
    · exact Nat.lt_of_le_of_lt (by omega) (Nat.lt_of_lt_of_le (Nat.lt_pow_self W_two) (Nat.le_refl _))
  obtain ⟨b1, l1, b2, l2, e, _, _, _, _, _, hq⟩ := Sq.isQ (q := q) ⟨h1, h2, h3⟩
  have e' : M.agg (rqC (nmQ q)) = .agg [.bool b1, mW l1, .bool b2, mW l2] := e
  unfold vq nmQ
  dsimp only
  rw [val_digs W_two]
  show (sg (decide (q.num < 0)) q.num.natAbs : Int) /. denI false (digs W (if q.den = 1 then 0 else q.den)) = q
  rw [← sg_dec]
  unfold denI
  by_cases hd : q.den = 1
  · rw [if_pos hd, digs_zero, if_pos rfl]
    have := Rat.num_divInt_den q
    rw [hd] at this
    exact this
  · rw [if_neg hd, if_neg, val_digs W_two]
    · exact Rat.num_divInt_den q
    · intro h
      have := congrArg (Tw.val W) h
      rw [val_digs W_two] at this
      exact absurd this q.den_nz
theorem formed_nm (q : Rat) : formedR (nmQ q) = true := by rw [formedR_iff, vq_nm]
theorem sformed_nm {q : Rat} (h : (signQ q == 0) = false) : sformed (nmQ q) = true := by
  unfold sformed
  rw [vq_nm, h, formed_nm]; rfl
def z0 : RQ := ⟨false, [], false, []⟩
theorem z0_nm : nmQ 0 = z0 := by
  unfold nmQ z0
  rw [Rat.zero_num, Rat.zero_den, if_pos rfl]
  show RQ.mk (decide ((0 : Int) < 0)) (digs W 0) false (digs W 0) = _
  rw [digs_zero]; rfl
theorem formed_z0 : formedR z0 = true := by rw [← z0_nm]; exact formed_nm 0
theorem vq_z0 : vq z0 = 0 := by rw [← z0_nm, vq_nm]
theorem wf_nm {q : Rat} {k : Nat} (h : Sq q k) (hk : k ≤ 1000) : WfQ (nmQ q) 1000 := by
  refine ⟨dig_digs W_two _, dig_digs W_two _, Nat.le_trans (length_digs_le W_two h.n) hk, ?_⟩
  show (digs W (if q.den = 1 then 0 else q.den)).length ≤ 1000
  split
  · rw [digs_zero]; simp
  · exact Nat.le_trans (length_digs_le W_two h.d) hk
theorem wf_z0 : WfQ z0 1000 := ⟨(fun x hx => by cases hx), (fun x hx => by cases hx), Nat.zero_le _, Nat.zero_le _⟩
def q3 : Rat := (3 : Int) /. 1
def q12 : Rat := (1 : Int) /. 2
theorem sq3 : Sq q3 1 := ⟨by decide +kernel, by decide +kernel, by omega⟩
theorem sq12 : Sq q12 1 := ⟨by decide +kernel, by decide +kernel, by omega⟩
def reluL : Ly := ⟨3, [], [], 0, 0, 0, 0, 0, 0, 0, 0, [], []⟩
def affL (a : Int) : Ly := ⟨1, [[⟨a, nmQ q3⟩]], [nmQ q12], 0, 0, 0, 0, 0, 0, 0, 0, [], []⟩
def smallNt (a : Int) : Nt := ⟨2, [affL a, reluL]⟩
def zC (_ : Unit) : List M := [.bool false, .nil, .bool false, .nil]
def picL : Ly := ⟨2, [], [z0], 1, 2, 2, 1, 2, 2, 1, 1, [z0, z0, z0, z0], []⟩
def picNt : Nt := ⟨4, [picL]⟩
theorem small_r {a : Int} : Ret Try.prog 27 [.int .i64 a] (.agg (ntC (smallNt a))) := by
  have o3 := of_q (n := 3) (d := 1) (by omega) (by omega) (by omega) (by omega)
  have o12 := of_q (n := 1) (d := 2) (by omega) (by omega) (by omega) (by omega)
  unfold smallNt affL
  have e3 : (3 : Int) /. 1 = q3 := rfl
  have e12 : (1 : Int) /. 2 = q12 := rfl
  rw [e3] at o3
  rw [e12] at o12
  generalize q3 = a3 at *
  generalize q12 = a12 at *
  refine ret_ofL (L := L) lay_ok Try.func27 rfl Try.ntmps27 rfl ?_
  refine goq ?_
  refine go ?_
  refine cl (by exact rfl) plain50 rfl o3 ?_
  refine go ?_
  refine ar_buildZ [6] ?_
  refine go ?_
  refine cl (by exact rfl) plain50 rfl o12 ?_
  refine go ?_
  refine ar_buildZ [7, 9] ?_
  refine go ?_
  refine ⟨_, rfl, ?_⟩
  refine le_agg ?_
  repeat (first | exact LeL.nil | refine LeL.cons ?_ ?_ | exact le_nil | exact Le.refl _ | refine le_agg ?_ | refine hle_seq ?_)
theorem pic_r : Ret Try.prog 20 [] (.agg (ntC picNt)) := by
  refine ret_ofL (L := L) lay_ok Try.func20 rfl Try.ntmps20 rfl ?_
  refine goq ?_
  refine go ?_
  refine ar_make (enc := zC) (l := 4) (c := 4) () rfl rfl rfl (by omega) (by decide) (by decide) ?_
  refine ar_make (enc := zC) (l := 1) (c := 1) () rfl rfl rfl (by omega) (by decide) (by decide) ?_
  refine go ?_
  refine ar_buildZ [1, 2] ?_
  refine go ?_
  refine ⟨_, rfl, ?_⟩
  refine le_agg ?_
  repeat (first | exact LeL.nil | refine LeL.cons ?_ ?_ | exact le_nil | exact Le.refl _ | refine le_agg ?_ | refine hle_seq ?_)
def qyT (n : Nat) (lo hi : Rat) (label : Int) : Qy := ⟨List.replicate n z0, label, List.replicate n (nmQ lo), List.replicate n (nmQ hi), 1⟩
set_option maxHeartbeats 8000000 in
theorem query2_r {lo hi label : Int} (h1 : -9223372036854775808 ≤ lo) (h2 : lo ≤ 9223372036854775807) (h3 : -9223372036854775808 ≤ hi) (h4 : hi ≤ 9223372036854775807) : Ret Try.prog 25 [.int .i64 2, .int .i64 lo, .int .i64 hi, .int .i64 label] (.agg (qyC (qyT 2 (lo /. 1) (hi /. 1) label))) := by
  have ol := of_q (n := lo) (d := 1) h1 h2 (by omega) (by omega)
  have oh := of_q (n := hi) (d := 1) h3 h4 (by omega) (by omega)
  generalize lo /. 1 = ql at *
  generalize hi /. 1 = qh at *
  refine ret_ofL (L := L) lay_ok Try.func25 rfl Try.ntmps25 rfl ?_
  refine goq ?_
  refine go ?_
  refine awp_loopN 3 ?_
  refine awpR_one ?_
  refine go ?_
  refine ar_app0 (enc := zC) (a := ()) rfl rfl rfl rfl rfl rfl (fun _ => rfl) rfl rfl rfl rfl rfl rfl (by decide) rfl ?_
  refine go ?_
  refine cl (by exact rfl) plain50 rfl ol ?_
  refine go ?_
  refine ar_app0 (enc := rqC) (a := nmQ ql) rfl rfl rfl rfl rfl rfl (fun _ => rfl) rfl rfl rfl rfl rfl rfl (by decide) rfl ?_
  refine go ?_
  refine cl (by exact rfl) plain50 rfl oh ?_
  refine go ?_
  refine ar_app0 (enc := rqC) (a := nmQ qh) rfl rfl rfl rfl rfl rfl (fun _ => rfl) rfl rfl rfl rfl rfl rfl (by decide) rfl ?_
  refine go ?_
  refine ⟨?_⟩
  refine awpR_sub (t' := [(0, some (.im (.int .i64 2))), (1, some (.im (.int .i64 lo))), (2, some (.im (.int .i64 hi))), (10, some (.im (.int .i64 1))), (9, some (.ptr 9 0)), (8, some (.ptr 8 0))]) (h' := [(22, some (.rw 26 4 ((List.replicate 1 ()).flatMap zC))), (29, some (.rw 26 4 ((List.replicate 1 (nmQ ql)).flatMap rqC))), (36, some (.rw 26 4 ((List.replicate 1 (nmQ qh)).flatMap rqC))), (9, some (.box 67 [.row 22 1 4, .im (.int .i64 label), .row 29 1 4, .row 36 1 4, .im (.int .u8 1)])), (8, some (.box 67 [.im .nil, .im (.int .i64 0), .im .nil, .im .nil, .im (.int .u8 0)]))]) ?_ ?_
  · exact gou0
  refine awpR_sw 22 1022 (t' := [(0, some (.im (.int .i64 2))), (1, some (.im (.int .i64 lo))), (2, some (.im (.int .i64 hi))), (10, some (.im (.int .i64 1))), (9, some (.ptr 9 0)), (8, some (.ptr 8 0))]) (h' := [(1022, some (.rw 26 4 ((List.replicate 1 ()).flatMap zC))), (29, some (.rw 26 4 ((List.replicate 1 (nmQ ql)).flatMap rqC))), (36, some (.rw 26 4 ((List.replicate 1 (nmQ qh)).flatMap rqC))), (9, some (.box 67 [.row 1022 1 4, .im (.int .i64 label), .row 29 1 4, .row 36 1 4, .im (.int .u8 1)])), (8, some (.box 67 [.im .nil, .im (.int .i64 0), .im .nil, .im .nil, .im (.int .u8 0)]))]) rfl rfl ?_
  refine awpR_sw 29 1029 (t' := [(0, some (.im (.int .i64 2))), (1, some (.im (.int .i64 lo))), (2, some (.im (.int .i64 hi))), (10, some (.im (.int .i64 1))), (9, some (.ptr 9 0)), (8, some (.ptr 8 0))]) (h' := [(1022, some (.rw 26 4 ((List.replicate 1 ()).flatMap zC))), (1029, some (.rw 26 4 ((List.replicate 1 (nmQ ql)).flatMap rqC))), (36, some (.rw 26 4 ((List.replicate 1 (nmQ qh)).flatMap rqC))), (9, some (.box 67 [.row 1022 1 4, .im (.int .i64 label), .row 1029 1 4, .row 36 1 4, .im (.int .u8 1)])), (8, some (.box 67 [.im .nil, .im (.int .i64 0), .im .nil, .im .nil, .im (.int .u8 0)]))]) rfl rfl ?_
  refine awpR_sw 36 1036 (t' := [(0, some (.im (.int .i64 2))), (1, some (.im (.int .i64 lo))), (2, some (.im (.int .i64 hi))), (10, some (.im (.int .i64 1))), (9, some (.ptr 9 0)), (8, some (.ptr 8 0))]) (h' := [(1022, some (.rw 26 4 ((List.replicate 1 ()).flatMap zC))), (1029, some (.rw 26 4 ((List.replicate 1 (nmQ ql)).flatMap rqC))), (1036, some (.rw 26 4 ((List.replicate 1 (nmQ qh)).flatMap rqC))), (9, some (.box 67 [.row 1022 1 4, .im (.int .i64 label), .row 1029 1 4, .row 1036 1 4, .im (.int .u8 1)])), (8, some (.box 67 [.im .nil, .im (.int .i64 0), .im .nil, .im .nil, .im (.int .u8 0)]))]) rfl rfl ?_
  refine awpR_one ?_
  refine go ?_
  refine ar_app1 (enc := zC) (l := List.replicate 1 (())) (l' := List.replicate 2 (())) (a := ()) rfl rfl rfl rfl rfl rfl rfl (fun _ => rfl) rfl rfl rfl rfl rfl rfl rfl (by show 2 * 64 ≤ _; omega) (by show 2 ≤ _; omega) rfl ?_
  refine go ?_
  refine cl (by exact rfl) plain50 rfl ol ?_
  refine go ?_
  refine ar_app1 (enc := rqC) (l := List.replicate 1 (nmQ ql)) (l' := List.replicate 2 (nmQ ql)) (a := nmQ ql) rfl rfl rfl rfl rfl rfl rfl (fun _ => rfl) rfl rfl rfl rfl rfl rfl rfl (by show 2 * 64 ≤ _; omega) (by show 2 ≤ _; omega) rfl ?_
  refine go ?_
  refine cl (by exact rfl) plain50 rfl oh ?_
  refine go ?_
  refine ar_app1 (enc := rqC) (l := List.replicate 1 (nmQ qh)) (l' := List.replicate 2 (nmQ qh)) (a := nmQ qh) rfl rfl rfl rfl rfl rfl rfl (fun _ => rfl) rfl rfl rfl rfl rfl rfl rfl (by show 2 * 64 ≤ _; omega) (by show 2 ≤ _; omega) rfl ?_
  refine go ?_
  refine ⟨?_⟩
  refine awpR_sub (t' := [(0, some (.im (.int .i64 2))), (1, some (.im (.int .i64 lo))), (2, some (.im (.int .i64 hi))), (10, some (.im (.int .i64 2))), (9, some (.ptr 9 0)), (8, some (.ptr 8 0))]) (h' := [(22, some (.rw 26 4 ((List.replicate 2 ()).flatMap zC))), (29, some (.rw 26 4 ((List.replicate 2 (nmQ ql)).flatMap rqC))), (36, some (.rw 26 4 ((List.replicate 2 (nmQ qh)).flatMap rqC))), (9, some (.box 67 [.row 22 2 4, .im (.int .i64 label), .row 29 2 4, .row 36 2 4, .im (.int .u8 1)])), (8, some (.box 67 [.im .nil, .im (.int .i64 0), .im .nil, .im .nil, .im (.int .u8 0)]))]) ?_ ?_
  · exact gou0
  refine awpR_sw 22 1022 (t' := [(0, some (.im (.int .i64 2))), (1, some (.im (.int .i64 lo))), (2, some (.im (.int .i64 hi))), (10, some (.im (.int .i64 2))), (9, some (.ptr 9 0)), (8, some (.ptr 8 0))]) (h' := [(1022, some (.rw 26 4 ((List.replicate 2 ()).flatMap zC))), (29, some (.rw 26 4 ((List.replicate 2 (nmQ ql)).flatMap rqC))), (36, some (.rw 26 4 ((List.replicate 2 (nmQ qh)).flatMap rqC))), (9, some (.box 67 [.row 1022 2 4, .im (.int .i64 label), .row 29 2 4, .row 36 2 4, .im (.int .u8 1)])), (8, some (.box 67 [.im .nil, .im (.int .i64 0), .im .nil, .im .nil, .im (.int .u8 0)]))]) rfl rfl ?_
  refine awpR_sw 29 1029 (t' := [(0, some (.im (.int .i64 2))), (1, some (.im (.int .i64 lo))), (2, some (.im (.int .i64 hi))), (10, some (.im (.int .i64 2))), (9, some (.ptr 9 0)), (8, some (.ptr 8 0))]) (h' := [(1022, some (.rw 26 4 ((List.replicate 2 ()).flatMap zC))), (1029, some (.rw 26 4 ((List.replicate 2 (nmQ ql)).flatMap rqC))), (36, some (.rw 26 4 ((List.replicate 2 (nmQ qh)).flatMap rqC))), (9, some (.box 67 [.row 1022 2 4, .im (.int .i64 label), .row 1029 2 4, .row 36 2 4, .im (.int .u8 1)])), (8, some (.box 67 [.im .nil, .im (.int .i64 0), .im .nil, .im .nil, .im (.int .u8 0)]))]) rfl rfl ?_
  refine awpR_sw 36 1036 (t' := [(0, some (.im (.int .i64 2))), (1, some (.im (.int .i64 lo))), (2, some (.im (.int .i64 hi))), (10, some (.im (.int .i64 2))), (9, some (.ptr 9 0)), (8, some (.ptr 8 0))]) (h' := [(1022, some (.rw 26 4 ((List.replicate 2 ()).flatMap zC))), (1029, some (.rw 26 4 ((List.replicate 2 (nmQ ql)).flatMap rqC))), (1036, some (.rw 26 4 ((List.replicate 2 (nmQ qh)).flatMap rqC))), (9, some (.box 67 [.row 1022 2 4, .im (.int .i64 label), .row 1029 2 4, .row 1036 2 4, .im (.int .u8 1)])), (8, some (.box 67 [.im .nil, .im (.int .i64 0), .im .nil, .im .nil, .im (.int .u8 0)]))]) rfl rfl ?_
  refine awpR_one ?_
  refine go ?_
  refine ⟨_, rfl, ?_⟩
  refine le_agg ?_
  repeat (first | exact LeL.nil | refine LeL.cons ?_ ?_ | exact le_nil | exact Le.refl _ | refine le_agg ?_ | refine hle_seq ?_)
set_option maxHeartbeats 8000000 in
theorem query3_r {lo hi label : Int} (h1 : -9223372036854775808 ≤ lo) (h2 : lo ≤ 9223372036854775807) (h3 : -9223372036854775808 ≤ hi) (h4 : hi ≤ 9223372036854775807) : Ret Try.prog 25 [.int .i64 3, .int .i64 lo, .int .i64 hi, .int .i64 label] (.agg (qyC (qyT 3 (lo /. 1) (hi /. 1) label))) := by
  have ol := of_q (n := lo) (d := 1) h1 h2 (by omega) (by omega)
  have oh := of_q (n := hi) (d := 1) h3 h4 (by omega) (by omega)
  generalize lo /. 1 = ql at *
  generalize hi /. 1 = qh at *
  refine ret_ofL (L := L) lay_ok Try.func25 rfl Try.ntmps25 rfl ?_
  refine goq ?_
  refine go ?_
  refine awp_loopN 4 ?_
  refine awpR_one ?_
  refine go ?_
  refine ar_app0 (enc := zC) (a := ()) rfl rfl rfl rfl rfl rfl (fun _ => rfl) rfl rfl rfl rfl rfl rfl (by decide) rfl ?_
  refine go ?_
  refine cl (by exact rfl) plain50 rfl ol ?_
  refine go ?_
  refine ar_app0 (enc := rqC) (a := nmQ ql) rfl rfl rfl rfl rfl rfl (fun _ => rfl) rfl rfl rfl rfl rfl rfl (by decide) rfl ?_
  refine go ?_
  refine cl (by exact rfl) plain50 rfl oh ?_
  refine go ?_
  refine ar_app0 (enc := rqC) (a := nmQ qh) rfl rfl rfl rfl rfl rfl (fun _ => rfl) rfl rfl rfl rfl rfl rfl (by decide) rfl ?_
  refine go ?_
  refine ⟨?_⟩
  refine awpR_sub (t' := [(0, some (.im (.int .i64 3))), (1, some (.im (.int .i64 lo))), (2, some (.im (.int .i64 hi))), (10, some (.im (.int .i64 1))), (9, some (.ptr 9 0)), (8, some (.ptr 8 0))]) (h' := [(22, some (.rw 26 4 ((List.replicate 1 ()).flatMap zC))), (29, some (.rw 26 4 ((List.replicate 1 (nmQ ql)).flatMap rqC))), (36, some (.rw 26 4 ((List.replicate 1 (nmQ qh)).flatMap rqC))), (9, some (.box 67 [.row 22 1 4, .im (.int .i64 label), .row 29 1 4, .row 36 1 4, .im (.int .u8 1)])), (8, some (.box 67 [.im .nil, .im (.int .i64 0), .im .nil, .im .nil, .im (.int .u8 0)]))]) ?_ ?_
  · exact gou0
  refine awpR_sw 22 1022 (t' := [(0, some (.im (.int .i64 3))), (1, some (.im (.int .i64 lo))), (2, some (.im (.int .i64 hi))), (10, some (.im (.int .i64 1))), (9, some (.ptr 9 0)), (8, some (.ptr 8 0))]) (h' := [(1022, some (.rw 26 4 ((List.replicate 1 ()).flatMap zC))), (29, some (.rw 26 4 ((List.replicate 1 (nmQ ql)).flatMap rqC))), (36, some (.rw 26 4 ((List.replicate 1 (nmQ qh)).flatMap rqC))), (9, some (.box 67 [.row 1022 1 4, .im (.int .i64 label), .row 29 1 4, .row 36 1 4, .im (.int .u8 1)])), (8, some (.box 67 [.im .nil, .im (.int .i64 0), .im .nil, .im .nil, .im (.int .u8 0)]))]) rfl rfl ?_
  refine awpR_sw 29 1029 (t' := [(0, some (.im (.int .i64 3))), (1, some (.im (.int .i64 lo))), (2, some (.im (.int .i64 hi))), (10, some (.im (.int .i64 1))), (9, some (.ptr 9 0)), (8, some (.ptr 8 0))]) (h' := [(1022, some (.rw 26 4 ((List.replicate 1 ()).flatMap zC))), (1029, some (.rw 26 4 ((List.replicate 1 (nmQ ql)).flatMap rqC))), (36, some (.rw 26 4 ((List.replicate 1 (nmQ qh)).flatMap rqC))), (9, some (.box 67 [.row 1022 1 4, .im (.int .i64 label), .row 1029 1 4, .row 36 1 4, .im (.int .u8 1)])), (8, some (.box 67 [.im .nil, .im (.int .i64 0), .im .nil, .im .nil, .im (.int .u8 0)]))]) rfl rfl ?_
  refine awpR_sw 36 1036 (t' := [(0, some (.im (.int .i64 3))), (1, some (.im (.int .i64 lo))), (2, some (.im (.int .i64 hi))), (10, some (.im (.int .i64 1))), (9, some (.ptr 9 0)), (8, some (.ptr 8 0))]) (h' := [(1022, some (.rw 26 4 ((List.replicate 1 ()).flatMap zC))), (1029, some (.rw 26 4 ((List.replicate 1 (nmQ ql)).flatMap rqC))), (1036, some (.rw 26 4 ((List.replicate 1 (nmQ qh)).flatMap rqC))), (9, some (.box 67 [.row 1022 1 4, .im (.int .i64 label), .row 1029 1 4, .row 1036 1 4, .im (.int .u8 1)])), (8, some (.box 67 [.im .nil, .im (.int .i64 0), .im .nil, .im .nil, .im (.int .u8 0)]))]) rfl rfl ?_
  refine awpR_one ?_
  refine go ?_
  refine ar_app1 (enc := zC) (l := List.replicate 1 (())) (l' := List.replicate 2 (())) (a := ()) rfl rfl rfl rfl rfl rfl rfl (fun _ => rfl) rfl rfl rfl rfl rfl rfl rfl (by show 2 * 64 ≤ _; omega) (by show 2 ≤ _; omega) rfl ?_
  refine go ?_
  refine cl (by exact rfl) plain50 rfl ol ?_
  refine go ?_
  refine ar_app1 (enc := rqC) (l := List.replicate 1 (nmQ ql)) (l' := List.replicate 2 (nmQ ql)) (a := nmQ ql) rfl rfl rfl rfl rfl rfl rfl (fun _ => rfl) rfl rfl rfl rfl rfl rfl rfl (by show 2 * 64 ≤ _; omega) (by show 2 ≤ _; omega) rfl ?_
  refine go ?_
  refine cl (by exact rfl) plain50 rfl oh ?_
  refine go ?_
  refine ar_app1 (enc := rqC) (l := List.replicate 1 (nmQ qh)) (l' := List.replicate 2 (nmQ qh)) (a := nmQ qh) rfl rfl rfl rfl rfl rfl rfl (fun _ => rfl) rfl rfl rfl rfl rfl rfl rfl (by show 2 * 64 ≤ _; omega) (by show 2 ≤ _; omega) rfl ?_
  refine go ?_
  refine ⟨?_⟩
  refine awpR_sub (t' := [(0, some (.im (.int .i64 3))), (1, some (.im (.int .i64 lo))), (2, some (.im (.int .i64 hi))), (10, some (.im (.int .i64 2))), (9, some (.ptr 9 0)), (8, some (.ptr 8 0))]) (h' := [(22, some (.rw 26 4 ((List.replicate 2 ()).flatMap zC))), (29, some (.rw 26 4 ((List.replicate 2 (nmQ ql)).flatMap rqC))), (36, some (.rw 26 4 ((List.replicate 2 (nmQ qh)).flatMap rqC))), (9, some (.box 67 [.row 22 2 4, .im (.int .i64 label), .row 29 2 4, .row 36 2 4, .im (.int .u8 1)])), (8, some (.box 67 [.im .nil, .im (.int .i64 0), .im .nil, .im .nil, .im (.int .u8 0)]))]) ?_ ?_
  · exact gou0
  refine awpR_sw 22 1022 (t' := [(0, some (.im (.int .i64 3))), (1, some (.im (.int .i64 lo))), (2, some (.im (.int .i64 hi))), (10, some (.im (.int .i64 2))), (9, some (.ptr 9 0)), (8, some (.ptr 8 0))]) (h' := [(1022, some (.rw 26 4 ((List.replicate 2 ()).flatMap zC))), (29, some (.rw 26 4 ((List.replicate 2 (nmQ ql)).flatMap rqC))), (36, some (.rw 26 4 ((List.replicate 2 (nmQ qh)).flatMap rqC))), (9, some (.box 67 [.row 1022 2 4, .im (.int .i64 label), .row 29 2 4, .row 36 2 4, .im (.int .u8 1)])), (8, some (.box 67 [.im .nil, .im (.int .i64 0), .im .nil, .im .nil, .im (.int .u8 0)]))]) rfl rfl ?_
  refine awpR_sw 29 1029 (t' := [(0, some (.im (.int .i64 3))), (1, some (.im (.int .i64 lo))), (2, some (.im (.int .i64 hi))), (10, some (.im (.int .i64 2))), (9, some (.ptr 9 0)), (8, some (.ptr 8 0))]) (h' := [(1022, some (.rw 26 4 ((List.replicate 2 ()).flatMap zC))), (1029, some (.rw 26 4 ((List.replicate 2 (nmQ ql)).flatMap rqC))), (36, some (.rw 26 4 ((List.replicate 2 (nmQ qh)).flatMap rqC))), (9, some (.box 67 [.row 1022 2 4, .im (.int .i64 label), .row 1029 2 4, .row 36 2 4, .im (.int .u8 1)])), (8, some (.box 67 [.im .nil, .im (.int .i64 0), .im .nil, .im .nil, .im (.int .u8 0)]))]) rfl rfl ?_
  refine awpR_sw 36 1036 (t' := [(0, some (.im (.int .i64 3))), (1, some (.im (.int .i64 lo))), (2, some (.im (.int .i64 hi))), (10, some (.im (.int .i64 2))), (9, some (.ptr 9 0)), (8, some (.ptr 8 0))]) (h' := [(1022, some (.rw 26 4 ((List.replicate 2 ()).flatMap zC))), (1029, some (.rw 26 4 ((List.replicate 2 (nmQ ql)).flatMap rqC))), (1036, some (.rw 26 4 ((List.replicate 2 (nmQ qh)).flatMap rqC))), (9, some (.box 67 [.row 1022 2 4, .im (.int .i64 label), .row 1029 2 4, .row 1036 2 4, .im (.int .u8 1)])), (8, some (.box 67 [.im .nil, .im (.int .i64 0), .im .nil, .im .nil, .im (.int .u8 0)]))]) rfl rfl ?_
  refine awpR_one ?_
  refine go ?_
  refine ar_app1 (enc := zC) (l := List.replicate 2 (())) (l' := List.replicate 3 (())) (a := ()) rfl rfl rfl rfl rfl rfl rfl (fun _ => rfl) rfl rfl rfl rfl rfl rfl rfl (by show 3 * 64 ≤ _; omega) (by show 3 ≤ _; omega) rfl ?_
  refine go ?_
  refine cl (by exact rfl) plain50 rfl ol ?_
  refine go ?_
  refine ar_app1 (enc := rqC) (l := List.replicate 2 (nmQ ql)) (l' := List.replicate 3 (nmQ ql)) (a := nmQ ql) rfl rfl rfl rfl rfl rfl rfl (fun _ => rfl) rfl rfl rfl rfl rfl rfl rfl (by show 3 * 64 ≤ _; omega) (by show 3 ≤ _; omega) rfl ?_
  refine go ?_
  refine cl (by exact rfl) plain50 rfl oh ?_
  refine go ?_
  refine ar_app1 (enc := rqC) (l := List.replicate 2 (nmQ qh)) (l' := List.replicate 3 (nmQ qh)) (a := nmQ qh) rfl rfl rfl rfl rfl rfl rfl (fun _ => rfl) rfl rfl rfl rfl rfl rfl rfl (by show 3 * 64 ≤ _; omega) (by show 3 ≤ _; omega) rfl ?_
  refine go ?_
  refine ⟨?_⟩
  refine awpR_sub (t' := [(0, some (.im (.int .i64 3))), (1, some (.im (.int .i64 lo))), (2, some (.im (.int .i64 hi))), (10, some (.im (.int .i64 3))), (9, some (.ptr 9 0)), (8, some (.ptr 8 0))]) (h' := [(22, some (.rw 26 4 ((List.replicate 3 ()).flatMap zC))), (29, some (.rw 26 4 ((List.replicate 3 (nmQ ql)).flatMap rqC))), (36, some (.rw 26 4 ((List.replicate 3 (nmQ qh)).flatMap rqC))), (9, some (.box 67 [.row 22 3 4, .im (.int .i64 label), .row 29 3 4, .row 36 3 4, .im (.int .u8 1)])), (8, some (.box 67 [.im .nil, .im (.int .i64 0), .im .nil, .im .nil, .im (.int .u8 0)]))]) ?_ ?_
  · exact gou0
  refine awpR_sw 22 1022 (t' := [(0, some (.im (.int .i64 3))), (1, some (.im (.int .i64 lo))), (2, some (.im (.int .i64 hi))), (10, some (.im (.int .i64 3))), (9, some (.ptr 9 0)), (8, some (.ptr 8 0))]) (h' := [(1022, some (.rw 26 4 ((List.replicate 3 ()).flatMap zC))), (29, some (.rw 26 4 ((List.replicate 3 (nmQ ql)).flatMap rqC))), (36, some (.rw 26 4 ((List.replicate 3 (nmQ qh)).flatMap rqC))), (9, some (.box 67 [.row 1022 3 4, .im (.int .i64 label), .row 29 3 4, .row 36 3 4, .im (.int .u8 1)])), (8, some (.box 67 [.im .nil, .im (.int .i64 0), .im .nil, .im .nil, .im (.int .u8 0)]))]) rfl rfl ?_
  refine awpR_sw 29 1029 (t' := [(0, some (.im (.int .i64 3))), (1, some (.im (.int .i64 lo))), (2, some (.im (.int .i64 hi))), (10, some (.im (.int .i64 3))), (9, some (.ptr 9 0)), (8, some (.ptr 8 0))]) (h' := [(1022, some (.rw 26 4 ((List.replicate 3 ()).flatMap zC))), (1029, some (.rw 26 4 ((List.replicate 3 (nmQ ql)).flatMap rqC))), (36, some (.rw 26 4 ((List.replicate 3 (nmQ qh)).flatMap rqC))), (9, some (.box 67 [.row 1022 3 4, .im (.int .i64 label), .row 1029 3 4, .row 36 3 4, .im (.int .u8 1)])), (8, some (.box 67 [.im .nil, .im (.int .i64 0), .im .nil, .im .nil, .im (.int .u8 0)]))]) rfl rfl ?_
  refine awpR_sw 36 1036 (t' := [(0, some (.im (.int .i64 3))), (1, some (.im (.int .i64 lo))), (2, some (.im (.int .i64 hi))), (10, some (.im (.int .i64 3))), (9, some (.ptr 9 0)), (8, some (.ptr 8 0))]) (h' := [(1022, some (.rw 26 4 ((List.replicate 3 ()).flatMap zC))), (1029, some (.rw 26 4 ((List.replicate 3 (nmQ ql)).flatMap rqC))), (1036, some (.rw 26 4 ((List.replicate 3 (nmQ qh)).flatMap rqC))), (9, some (.box 67 [.row 1022 3 4, .im (.int .i64 label), .row 1029 3 4, .row 1036 3 4, .im (.int .u8 1)])), (8, some (.box 67 [.im .nil, .im (.int .i64 0), .im .nil, .im .nil, .im (.int .u8 0)]))]) rfl rfl ?_
  refine awpR_one ?_
  refine go ?_
  refine ⟨_, rfl, ?_⟩
  refine le_agg ?_
  repeat (first | exact LeL.nil | refine LeL.cons ?_ ?_ | exact le_nil | exact Le.refl _ | refine le_agg ?_ | refine hle_seq ?_)
theorem wrapS {x : Int} (h1 : -1000000 ≤ x) (h2 : x ≤ 1000000) : IntKind.i64.wrap x = x := wrapI (by omega) (by omega)
theorem s3 : (signQ q3 == 0) = false := by decide +kernel
theorem bad_aff (a : Int) : badT (affL a) = false := by
  unfold badT affL
  dsimp only
  simp only [List.all_cons, List.all_nil, formed_nm]
  rfl
theorem beh_aff1 {n : Int} (hn : 1 < n) : behindT (affL 1) n = (1, 1) := by
  unfold behindT
  rw [bad_aff, if_neg (by decide)]
  have : (affL 1).rows.all (rightT n (-1)) = true := by
    unfold affL
    simp only [List.all_cons, List.all_nil, rightT, sformed_nm s3, Bool.and_true]
    rw [decide_eq_false (show ¬ ((1 : Int) ≤ -1) by omega), decide_eq_false (show ¬ ((1 : Int) ≥ n) by omega)]
    rfl
  rw [this]
  rfl
theorem beh_aff2 : behindT (affL 2) 2 = (-1, 0) := by
  unfold behindT
  rw [bad_aff, if_neg (by decide)]
  have : (affL 2).rows.all (rightT 2 (-1)) = false := by
    unfold affL
    simp only [List.all_cons, List.all_nil, rightT]
    rfl
  rw [this]
  rfl
theorem beh_relu (n : Int) : behindT reluL n = (n, 0) := rfl
theorem look_small1 : lookF (smallNt 1) = ([2, 1, 1], 0) := by
  show goT [affL 1, reluL] [2] 2 0 = _
  unfold goT
  rw [beh_aff1 (by omega)]
  show goT [reluL] [2, 1] 1 1 = _
  unfold goT
  rw [beh_relu]
  rfl
theorem look_small2 : lookF (smallNt 2) = ([], 22) := by
  show goT [affL 2, reluL] [2] 2 0 = _
  unfold goT
  rw [beh_aff2]
  rfl
theorem bad_pic : badT picL = false := by
  unfold badT picL
  dsimp only
  simp only [List.all_cons, List.all_nil, formed_z0]
  rfl
theorem beh_pic : behindT picL 4 = (9, 36) := by
  unfold behindT
  rw [bad_pic, if_neg (by decide)]
  rfl
theorem look_pic : lookF picNt = ([4, 9], 0) := by
  show goT [picL] [4] 4 0 = _
  unfold goT
  rw [beh_pic]
  rfl
theorem ok_relu : LyOk reluL := ⟨fun r h => by simp [reluL] at h, fun r h => by simp [reluL] at h, fun r h => by simp [reluL] at h, fun r h => by simp [reluL] at h, by simp [reluL], by simp [reluL], by simp [reluL], by simp [reluL]⟩
theorem ok_aff (a : Int) : LyOk (affL a) := by
  refine ⟨fun r h => ?_, fun r h => by simp [affL] at h, fun v h => ?_, fun r h => by simp [affL] at h, by simp [affL], by simp [affL], by simp [affL], by simp [affL]⟩
  · simp only [affL, List.mem_singleton] at h
    subst h
    exact wf_nm sq12 (by omega)
  · simp only [affL, List.mem_singleton] at h
    subst h
    refine ⟨by simp, fun t ht => ?_⟩
    simp only [List.mem_singleton] at ht
    subst ht
    exact wf_nm sq3 (by omega)
theorem ok_pic : LyOk picL := by
  refine ⟨fun r h => ?_, fun r h => ?_, fun v h => by simp [picL] at h, fun r h => by simp [picL] at h, by simp [picL], by simp [picL], by simp [picL], by simp [picL]⟩
  · simp only [picL, List.mem_singleton] at h
    subst h
    exact wf_z0
  · simp only [picL, List.mem_cons, List.not_mem_nil, or_false, or_self] at h
    subst h
    exact wf_z0
theorem nok {i : Int} {l : List Ly} (h : ∀ x ∈ l, LyOk x) (hl : l.length ≤ 1000000) : NtOk ⟨i, l⟩ := ⟨h, hl⟩
theorem ok_small (i a : Int) : NtOk ⟨i, [affL a, reluL]⟩ := by
  refine nok (fun x h => ?_) (by simp)
  simp only [List.mem_cons, List.not_mem_nil, or_false] at h
  rcases h with rfl | rfl
  · exact ok_aff a
  · exact ok_relu
theorem ok_picN : NtOk picNt := nok (fun x h => by simp only [List.mem_singleton] at h; subst h; exact ok_pic) (by simp)
theorem ok_qy {n : Nat} {lo hi : Rat} {label : Int} (hn : n ≤ 100) (h1 : Sq lo 10) (h2 : Sq hi 10) : QyOk (qyT n lo hi label) := by
  refine ⟨fun r h => ?_, fun r h => ?_, fun r h => ?_, by simp [qyT]; omega, by simp [qyT]; omega, by simp [qyT]; omega⟩
  · rw [List.eq_of_mem_replicate h]; exact wf_z0
  · rw [List.eq_of_mem_replicate h]; exact wf_nm h1 (by omega)
  · rw [List.eq_of_mem_replicate h]; exact wf_nm h2 (by omega)
theorem all_rep {α : Type} {p : α → Bool} {n : Nat} {a : α} (h : p a = true) : (List.replicate n a).all p = true := by
  rw [List.all_eq_true]
  intro x hx
  rw [List.eq_of_mem_replicate hx]; exact h
theorem bad_qy {n : Nat} {lo hi : Rat} {label : Int} : [(qyT n lo hi label).x0, (qyT n lo hi label).lo, (qyT n lo hi label).hi].any (bad1 (n : Nat)) = false := by
  unfold qyT bad1
  simp only [List.any_cons, List.any_nil, List.length_replicate, bne_self_eq_false, Bool.false_or, Bool.or_false, all_rep formed_z0, all_rep (formed_nm _), Bool.not_true]
theorem cmps_qy {n : Nat} {lo hi : Rat} : cmpsT ((List.replicate n (nmQ lo)).zip (List.replicate n (nmQ hi))) = (decide (0 < n) && decide (cmpQ lo hi > 0)) := by
  unfold cmpsT
  rw [List.zip_replicate, Nat.min_self]
  cases n with
  | zero => rfl
  | succ n =>
    rw [List.replicate_succ, List.any_cons]
    dsimp only
    rw [vq_nm, vq_nm]
    by_cases h : cmpQ lo hi > 0
    · rw [decide_eq_true h]; simp
    · rw [decide_eq_false h, Bool.false_or]
      simp only [Bool.and_false]
      rw [List.any_eq_false]
      intro x hx
      rw [List.eq_of_mem_replicate hx]
      dsimp only
      rw [vq_nm, vq_nm, decide_eq_false h]; decide
theorem query_small1 {lo hi : Rat} {label : Int} : queryT (smallNt 1) (qyT 2 lo hi label) = if cmpQ lo hi > 0 then 23 else if label < 0 ∨ label ≥ 1 then 24 else 0 := by
  unfold queryT
  rw [look_small1, if_neg (by decide)]
  have e := bad_qy (n := 2) (lo := lo) (hi := hi) (label := label)
  rw [show (smallNt 1).inp = ((2 : Nat) : Int) from rfl, if_neg (by rw [e]; decide), show (((qyT 2 lo hi label).norm != 1) && ((qyT 2 lo hi label).norm != 2)) = false from rfl, if_neg (by decide)]
  rw [show (qyT 2 lo hi label).lo = List.replicate 2 (nmQ lo) from rfl, show (qyT 2 lo hi label).hi = List.replicate 2 (nmQ hi) from rfl, cmps_qy]
  by_cases h : cmpQ lo hi > 0
  · rw [decide_eq_true h, if_pos (by decide), if_pos h]
  · rw [decide_eq_false h, if_neg (by decide), if_neg h]
    rfl
end Go.Proofs.Ytkbhchlecokpiaa

/- All calls of layer 4, as the document defines them. -/
import Derived.Test.YtpahppekalgegaaGreatFwL4
import Derived.Test.YtpahppekalgegaaGreatFwR4c
namespace Go.Proofs.YtpahppekalgegaaGreat
open Go Go.RowKit Fw Tw Rat
set_option linter.unusedVariables false
set_option linter.unusedSimpArgs false
theorem copyRat_r {b1 b2 : Bool} {l1 l2 : List Nat} (hd1 : Dig W l1) (hd2 : Dig W l2) (h1 : l1.length ≤ 60000) (h2 : l2.length ≤ 60000) : Ret Tryz.prog 11 [.agg [.bool b1, mW l1, .bool b2, mW l2]] (.agg [.bool b1, mW l1, .bool b2, mW l2]) := by
  have c1 := copyWords_r hd1 h1
  have c2 := copyWords_r hd2 h2
  refine ret_of (L := L) lay_ok Tryz.func11 rfl Tryz.ntmps11 rfl ?_
  refine go ?_
  refine cl (by exact rfl) plain62 rfl c1 ?_
  refine go ?_
  refine cl (by exact rfl) plain62 rfl c2 ?_
  refine go ?_
  refine ⟨_, rfl, ?_⟩
  rfl
theorem sameRaw_t {b1 b2 : Bool} {l1 l2 : List Nat} (h1 : l1.length ≤ 1000000000) (h2 : l2.length ≤ 1000000000) : Ret Tryz.prog 12 [.agg [.bool b1, mW l1, .bool b2, mW l2], .agg [.bool b1, mW l1, .bool b2, mW l2]] (.bool true) := by
  have := sameRat_r (b1 := b1) (b2 := b2) (b3 := b1) (b4 := b2) (l1 := l1) (l2 := l2) (l3 := l1) (l4 := l2) h1 h2
  simpa using this
theorem parse_any' (s : List UInt8) : (parseZ s).1.natAbs < W ^ 40 := by
  unfold parseZ
  generalize bodyT s = t
  generalize negT s = neg
  unfold parseT
  have h0 : (0 : Int).natAbs < W ^ 40 := Nat.pow_pos W_pos
  split
  · exact h0
  · split
    · exact h0
    · rename_i ha
      split
      · exact h0
      · rename_i hl
        show (sg neg (valT t)).natAbs < _
        rw [sg_abs]
        exact Nat.lt_of_lt_of_le (valT_lt (by simpa using ha)) (ten40 (by omega))
theorem parseQ_sq (s : List UInt8) : Sq (parseQ s).1 40 := by
  have h0 : Sq 0 40 := Sq.mono (j := 1) ⟨by decide, by decide, by omega⟩ (by omega)
  unfold parseQ parseP
  have a1 := parse_any' (cutT s).1
  have a2 := parse_any' (belowT s)
  split
  · exact h0
  · split
    · exact h0
    · split
      · exact h0
      · exact Sq.div a1 a2 (by omega)
theorem go_Y47847e {p q : Prop} (h : q) (f : Bx q → p := by intro h; (repeat (first | refine go1 ?_ | refine cl (by exact rfl) plain9 rfl sa ?_ | refine cl (by exact rfl) plain9 rfl sb ?_ | refine cl (by exact rfl) plain11 rfl ca ?_ | refine cl (by exact rfl) plain11 rfl cb ?_ | refine cl (by exact rfl) plain10 rfl awake4_r ?_ | refine cl (by exact rfl) plain13 rfl dv ?_ | refine cl (by exact rfl) plain25 rfl mk1 ?_ | refine cl (by exact rfl) plain26 rfl mk2 ?_ | refine cl (by exact rfl) plain27 rfl wh1 ?_ | refine cl (by exact rfl) plain24 rfl wh2 ?_ | refine cl (by exact rfl) plain36 rfl sgb ?_ | refine cl (by exact rfl) plain22 rfl rsb ?_ | refine cl (by exact rfl) plain42 rfl kf ?_ | refine cl (by exact rfl) plain44 rfl kc ?_ | refine cl (by exact rfl) plain43 rfl rf ?_ | refine cl (by exact rfl) plain45 rfl rc ?_ | refine cl (by exact rfl) plain46 rfl tx1 ?_ | refine cl (by exact rfl) plain47 rfl tx2 ?_ | refine cl (by exact rfl) plain48 rfl pp ?_ | refine cl (by exact rfl) plain49 rfl pr ?_ | refine cl (by exact rfl) plain60 rfl (of_q (by omega) (by omega) (by omega) (by omega)) ?_ | refine cl (by exact rfl) plain23 rfl (norm_q (by first | assumption | exact Sq.isQ (by repeat (first | assumption | exact IsQ.sq (by assumption) | apply Sq.quo | apply Sq.sub | apply Sq.add | apply Sq.mul | apply Sq.neg | apply Sq.abs | apply Sq.max | apply Sq.min | exact Sq.of (by decide) (by decide) | exact Sq.whole (by assumption) | exact Sq.floor1 (by assumption) | exact Sq.ceil1 (by assumption)))) (by omega)) ?_ | refine cl (by exact rfl) plain14 rfl (add_q (by first | assumption | exact Sq.isQ (by repeat (first | assumption | exact IsQ.sq (by assumption) | apply Sq.quo | apply Sq.sub | apply Sq.add | apply Sq.mul | apply Sq.neg | apply Sq.abs | apply Sq.max | apply Sq.min | exact Sq.of (by decide) (by decide) | exact Sq.whole (by assumption) | exact Sq.floor1 (by assumption) | exact Sq.ceil1 (by assumption)))) (by first | assumption | exact Sq.isQ (by repeat (first | assumption | exact IsQ.sq (by assumption) | apply Sq.quo | apply Sq.sub | apply Sq.add | apply Sq.mul | apply Sq.neg | apply Sq.abs | apply Sq.max | apply Sq.min | exact Sq.of (by decide) (by decide) | exact Sq.whole (by assumption) | exact Sq.floor1 (by assumption) | exact Sq.ceil1 (by assumption)))) (by omega) (by omega)) ?_ | refine cl (by exact rfl) plain16 rfl (sub_q (by first | assumption | exact Sq.isQ (by repeat (first | assumption | exact IsQ.sq (by assumption) | apply Sq.quo | apply Sq.sub | apply Sq.add | apply Sq.mul | apply Sq.neg | apply Sq.abs | apply Sq.max | apply Sq.min | exact Sq.of (by decide) (by decide) | exact Sq.whole (by assumption) | exact Sq.floor1 (by assumption) | exact Sq.ceil1 (by assumption)))) (by first | assumption | exact Sq.isQ (by repeat (first | assumption | exact IsQ.sq (by assumption) | apply Sq.quo | apply Sq.sub | apply Sq.add | apply Sq.mul | apply Sq.neg | apply Sq.abs | apply Sq.max | apply Sq.min | exact Sq.of (by decide) (by decide) | exact Sq.whole (by assumption) | exact Sq.floor1 (by assumption) | exact Sq.ceil1 (by assumption)))) (by omega) (by omega)) ?_ | refine cl (by exact rfl) plain18 rfl (mul_q (by first | assumption | exact Sq.isQ (by repeat (first | assumption | exact IsQ.sq (by assumption) | apply Sq.quo | apply Sq.sub | apply Sq.add | apply Sq.mul | apply Sq.neg | apply Sq.abs | apply Sq.max | apply Sq.min | exact Sq.of (by decide) (by decide) | exact Sq.whole (by assumption) | exact Sq.floor1 (by assumption) | exact Sq.ceil1 (by assumption)))) (by first | assumption | exact Sq.isQ (by repeat (first | assumption | exact IsQ.sq (by assumption) | apply Sq.quo | apply Sq.sub | apply Sq.add | apply Sq.mul | apply Sq.neg | apply Sq.abs | apply Sq.max | apply Sq.min | exact Sq.of (by decide) (by decide) | exact Sq.whole (by assumption) | exact Sq.floor1 (by assumption) | exact Sq.ceil1 (by assumption)))) (by omega) (by omega)) ?_ | refine cl (by exact rfl) plain20 rfl (quo_q (by first | assumption | exact Sq.isQ (by repeat (first | assumption | exact IsQ.sq (by assumption) | apply Sq.quo | apply Sq.sub | apply Sq.add | apply Sq.mul | apply Sq.neg | apply Sq.abs | apply Sq.max | apply Sq.min | exact Sq.of (by decide) (by decide) | exact Sq.whole (by assumption) | exact Sq.floor1 (by assumption) | exact Sq.ceil1 (by assumption)))) (by first | assumption | exact Sq.isQ (by repeat (first | assumption | exact IsQ.sq (by assumption) | apply Sq.quo | apply Sq.sub | apply Sq.add | apply Sq.mul | apply Sq.neg | apply Sq.abs | apply Sq.max | apply Sq.min | exact Sq.of (by decide) (by decide) | exact Sq.whole (by assumption) | exact Sq.floor1 (by assumption) | exact Sq.ceil1 (by assumption)))) (by omega) (by omega)) ?_ | refine cl (by exact rfl) plain28 rfl (neg_q (by first | assumption | exact Sq.isQ (by repeat (first | assumption | exact IsQ.sq (by assumption) | apply Sq.quo | apply Sq.sub | apply Sq.add | apply Sq.mul | apply Sq.neg | apply Sq.abs | apply Sq.max | apply Sq.min | exact Sq.of (by decide) (by decide) | exact Sq.whole (by assumption) | exact Sq.floor1 (by assumption) | exact Sq.ceil1 (by assumption)))) (by omega)) ?_ | refine cl (by exact rfl) plain30 rfl (abs_q (by first | assumption | exact Sq.isQ (by repeat (first | assumption | exact IsQ.sq (by assumption) | apply Sq.quo | apply Sq.sub | apply Sq.add | apply Sq.mul | apply Sq.neg | apply Sq.abs | apply Sq.max | apply Sq.min | exact Sq.of (by decide) (by decide) | exact Sq.whole (by assumption) | exact Sq.floor1 (by assumption) | exact Sq.ceil1 (by assumption)))) (by omega)) ?_ | refine cl (by exact rfl) plain32 rfl (max_q (by first | assumption | exact Sq.isQ (by repeat (first | assumption | exact IsQ.sq (by assumption) | apply Sq.quo | apply Sq.sub | apply Sq.add | apply Sq.mul | apply Sq.neg | apply Sq.abs | apply Sq.max | apply Sq.min | exact Sq.of (by decide) (by decide) | exact Sq.whole (by assumption) | exact Sq.floor1 (by assumption) | exact Sq.ceil1 (by assumption)))) (by first | assumption | exact Sq.isQ (by repeat (first | assumption | exact IsQ.sq (by assumption) | apply Sq.quo | apply Sq.sub | apply Sq.add | apply Sq.mul | apply Sq.neg | apply Sq.abs | apply Sq.max | apply Sq.min | exact Sq.of (by decide) (by decide) | exact Sq.whole (by assumption) | exact Sq.floor1 (by assumption) | exact Sq.ceil1 (by assumption)))) (by omega) (by omega)) ?_ | refine cl (by exact rfl) plain34 rfl (min_q (by first | assumption | exact Sq.isQ (by repeat (first | assumption | exact IsQ.sq (by assumption) | apply Sq.quo | apply Sq.sub | apply Sq.add | apply Sq.mul | apply Sq.neg | apply Sq.abs | apply Sq.max | apply Sq.min | exact Sq.of (by decide) (by decide) | exact Sq.whole (by assumption) | exact Sq.floor1 (by assumption) | exact Sq.ceil1 (by assumption)))) (by first | assumption | exact Sq.isQ (by repeat (first | assumption | exact IsQ.sq (by assumption) | apply Sq.quo | apply Sq.sub | apply Sq.add | apply Sq.mul | apply Sq.neg | apply Sq.abs | apply Sq.max | apply Sq.min | exact Sq.of (by decide) (by decide) | exact Sq.whole (by assumption) | exact Sq.floor1 (by assumption) | exact Sq.ceil1 (by assumption)))) (by omega) (by omega)) ?_ | refine cl (by exact rfl) plain37 rfl (cmp_q (by first | assumption | exact Sq.isQ (by repeat (first | assumption | exact IsQ.sq (by assumption) | apply Sq.quo | apply Sq.sub | apply Sq.add | apply Sq.mul | apply Sq.neg | apply Sq.abs | apply Sq.max | apply Sq.min | exact Sq.of (by decide) (by decide) | exact Sq.whole (by assumption) | exact Sq.floor1 (by assumption) | exact Sq.ceil1 (by assumption)))) (by first | assumption | exact Sq.isQ (by repeat (first | assumption | exact IsQ.sq (by assumption) | apply Sq.quo | apply Sq.sub | apply Sq.add | apply Sq.mul | apply Sq.neg | apply Sq.abs | apply Sq.max | apply Sq.min | exact Sq.of (by decide) (by decide) | exact Sq.whole (by assumption) | exact Sq.floor1 (by assumption) | exact Sq.ceil1 (by assumption)))) (by omega) (by omega)) ?_ | refine cl (by exact rfl) plain39 rfl (sameQ_q (by first | assumption | exact Sq.isQ (by repeat (first | assumption | exact IsQ.sq (by assumption) | apply Sq.quo | apply Sq.sub | apply Sq.add | apply Sq.mul | apply Sq.neg | apply Sq.abs | apply Sq.max | apply Sq.min | exact Sq.of (by decide) (by decide) | exact Sq.whole (by assumption) | exact Sq.floor1 (by assumption) | exact Sq.ceil1 (by assumption)))) (by first | assumption | exact Sq.isQ (by repeat (first | assumption | exact IsQ.sq (by assumption) | apply Sq.quo | apply Sq.sub | apply Sq.add | apply Sq.mul | apply Sq.neg | apply Sq.abs | apply Sq.max | apply Sq.min | exact Sq.of (by decide) (by decide) | exact Sq.whole (by assumption) | exact Sq.floor1 (by assumption) | exact Sq.ceil1 (by assumption)))) (by omega) (by omega)) ?_ | refine cl (by exact rfl) plain36 rfl (sign_q (by first | assumption | exact Sq.isQ (by repeat (first | assumption | exact IsQ.sq (by assumption) | apply Sq.quo | apply Sq.sub | apply Sq.add | apply Sq.mul | apply Sq.neg | apply Sq.abs | apply Sq.max | apply Sq.min | exact Sq.of (by decide) (by decide) | exact Sq.whole (by assumption) | exact Sq.floor1 (by assumption) | exact Sq.ceil1 (by assumption)))) (by omega)) ?_ | refine cl (by exact rfl) plain42 rfl (floor_q (by first | assumption | exact Sq.isQ (by repeat (first | assumption | exact IsQ.sq (by assumption) | apply Sq.quo | apply Sq.sub | apply Sq.add | apply Sq.mul | apply Sq.neg | apply Sq.abs | apply Sq.max | apply Sq.min | exact Sq.of (by decide) (by decide) | exact Sq.whole (by assumption) | exact Sq.floor1 (by assumption) | exact Sq.ceil1 (by assumption)))) (by omega)) ?_ | refine cl (by exact rfl) plain44 rfl (ceil_q (by first | assumption | exact Sq.isQ (by repeat (first | assumption | exact IsQ.sq (by assumption) | apply Sq.quo | apply Sq.sub | apply Sq.add | apply Sq.mul | apply Sq.neg | apply Sq.abs | apply Sq.max | apply Sq.min | exact Sq.of (by decide) (by decide) | exact Sq.whole (by assumption) | exact Sq.floor1 (by assumption) | exact Sq.ceil1 (by assumption)))) (by omega)) ?_ | refine cl (by exact rfl) plain40 rfl (isWhole_q (by first | assumption | exact Sq.isQ (by repeat (first | assumption | exact IsQ.sq (by assumption) | apply Sq.quo | apply Sq.sub | apply Sq.add | apply Sq.mul | apply Sq.neg | apply Sq.abs | apply Sq.max | apply Sq.min | exact Sq.of (by decide) (by decide) | exact Sq.whole (by assumption) | exact Sq.floor1 (by assumption) | exact Sq.ceil1 (by assumption)))) (by omega)) ?_ | refine cl (by exact rfl) plain46 rfl (textQ_r (by first | assumption | exact Sq.isQ (by repeat (first | assumption | exact IsQ.sq (by assumption) | apply Sq.quo | apply Sq.sub | apply Sq.add | apply Sq.mul | apply Sq.neg | apply Sq.abs | apply Sq.max | apply Sq.min | exact Sq.of (by decide) (by decide) | exact Sq.whole (by assumption) | exact Sq.floor1 (by assumption) | exact Sq.ceil1 (by assumption)))) (by omega)) ?_ | refine cl (by exact rfl) plain24 rfl (rnorm_q (by first | assumption | exact Sq.isQ (by repeat (first | assumption | exact IsQ.sq (by assumption) | apply Sq.quo | apply Sq.sub | apply Sq.add | apply Sq.mul | apply Sq.neg | apply Sq.abs | apply Sq.max | apply Sq.min | exact Sq.of (by decide) (by decide) | exact Sq.whole (by assumption) | exact Sq.floor1 (by assumption) | exact Sq.ceil1 (by assumption)))) (by omega)) ?_ | refine cl (by exact rfl) plain15 rfl (radd_q (by first | assumption | exact Sq.isQ (by repeat (first | assumption | exact IsQ.sq (by assumption) | apply Sq.quo | apply Sq.sub | apply Sq.add | apply Sq.mul | apply Sq.neg | apply Sq.abs | apply Sq.max | apply Sq.min | exact Sq.of (by decide) (by decide) | exact Sq.whole (by assumption) | exact Sq.floor1 (by assumption) | exact Sq.ceil1 (by assumption)))) (by first | assumption | exact Sq.isQ (by repeat (first | assumption | exact IsQ.sq (by assumption) | apply Sq.quo | apply Sq.sub | apply Sq.add | apply Sq.mul | apply Sq.neg | apply Sq.abs | apply Sq.max | apply Sq.min | exact Sq.of (by decide) (by decide) | exact Sq.whole (by assumption) | exact Sq.floor1 (by assumption) | exact Sq.ceil1 (by assumption)))) (by omega) (by omega)) ?_ | refine cl (by exact rfl) plain17 rfl (rsub_q (by first | assumption | exact Sq.isQ (by repeat (first | assumption | exact IsQ.sq (by assumption) | apply Sq.quo | apply Sq.sub | apply Sq.add | apply Sq.mul | apply Sq.neg | apply Sq.abs | apply Sq.max | apply Sq.min | exact Sq.of (by decide) (by decide) | exact Sq.whole (by assumption) | exact Sq.floor1 (by assumption) | exact Sq.ceil1 (by assumption)))) (by first | assumption | exact Sq.isQ (by repeat (first | assumption | exact IsQ.sq (by assumption) | apply Sq.quo | apply Sq.sub | apply Sq.add | apply Sq.mul | apply Sq.neg | apply Sq.abs | apply Sq.max | apply Sq.min | exact Sq.of (by decide) (by decide) | exact Sq.whole (by assumption) | exact Sq.floor1 (by assumption) | exact Sq.ceil1 (by assumption)))) (by omega) (by omega)) ?_ | refine cl (by exact rfl) plain19 rfl (rmul_q (by first | assumption | exact Sq.isQ (by repeat (first | assumption | exact IsQ.sq (by assumption) | apply Sq.quo | apply Sq.sub | apply Sq.add | apply Sq.mul | apply Sq.neg | apply Sq.abs | apply Sq.max | apply Sq.min | exact Sq.of (by decide) (by decide) | exact Sq.whole (by assumption) | exact Sq.floor1 (by assumption) | exact Sq.ceil1 (by assumption)))) (by first | assumption | exact Sq.isQ (by repeat (first | assumption | exact IsQ.sq (by assumption) | apply Sq.quo | apply Sq.sub | apply Sq.add | apply Sq.mul | apply Sq.neg | apply Sq.abs | apply Sq.max | apply Sq.min | exact Sq.of (by decide) (by decide) | exact Sq.whole (by assumption) | exact Sq.floor1 (by assumption) | exact Sq.ceil1 (by assumption)))) (by omega) (by omega)) ?_ | refine cl (by exact rfl) plain21 rfl (rquo_q (by first | assumption | exact Sq.isQ (by repeat (first | assumption | exact IsQ.sq (by assumption) | apply Sq.quo | apply Sq.sub | apply Sq.add | apply Sq.mul | apply Sq.neg | apply Sq.abs | apply Sq.max | apply Sq.min | exact Sq.of (by decide) (by decide) | exact Sq.whole (by assumption) | exact Sq.floor1 (by assumption) | exact Sq.ceil1 (by assumption)))) (by first | assumption | exact Sq.isQ (by repeat (first | assumption | exact IsQ.sq (by assumption) | apply Sq.quo | apply Sq.sub | apply Sq.add | apply Sq.mul | apply Sq.neg | apply Sq.abs | apply Sq.max | apply Sq.min | exact Sq.of (by decide) (by decide) | exact Sq.whole (by assumption) | exact Sq.floor1 (by assumption) | exact Sq.ceil1 (by assumption)))) (by omega) (by omega)) ?_ | refine cl (by exact rfl) plain29 rfl (rneg_q (by first | assumption | exact Sq.isQ (by repeat (first | assumption | exact IsQ.sq (by assumption) | apply Sq.quo | apply Sq.sub | apply Sq.add | apply Sq.mul | apply Sq.neg | apply Sq.abs | apply Sq.max | apply Sq.min | exact Sq.of (by decide) (by decide) | exact Sq.whole (by assumption) | exact Sq.floor1 (by assumption) | exact Sq.ceil1 (by assumption)))) (by omega)) ?_ | refine cl (by exact rfl) plain31 rfl (rabs_q (by first | assumption | exact Sq.isQ (by repeat (first | assumption | exact IsQ.sq (by assumption) | apply Sq.quo | apply Sq.sub | apply Sq.add | apply Sq.mul | apply Sq.neg | apply Sq.abs | apply Sq.max | apply Sq.min | exact Sq.of (by decide) (by decide) | exact Sq.whole (by assumption) | exact Sq.floor1 (by assumption) | exact Sq.ceil1 (by assumption)))) (by omega)) ?_ | refine cl (by exact rfl) plain33 rfl (rmax_q (by first | assumption | exact Sq.isQ (by repeat (first | assumption | exact IsQ.sq (by assumption) | apply Sq.quo | apply Sq.sub | apply Sq.add | apply Sq.mul | apply Sq.neg | apply Sq.abs | apply Sq.max | apply Sq.min | exact Sq.of (by decide) (by decide) | exact Sq.whole (by assumption) | exact Sq.floor1 (by assumption) | exact Sq.ceil1 (by assumption)))) (by first | assumption | exact Sq.isQ (by repeat (first | assumption | exact IsQ.sq (by assumption) | apply Sq.quo | apply Sq.sub | apply Sq.add | apply Sq.mul | apply Sq.neg | apply Sq.abs | apply Sq.max | apply Sq.min | exact Sq.of (by decide) (by decide) | exact Sq.whole (by assumption) | exact Sq.floor1 (by assumption) | exact Sq.ceil1 (by assumption)))) (by omega) (by omega)) ?_ | refine cl (by exact rfl) plain35 rfl (rmin_q (by first | assumption | exact Sq.isQ (by repeat (first | assumption | exact IsQ.sq (by assumption) | apply Sq.quo | apply Sq.sub | apply Sq.add | apply Sq.mul | apply Sq.neg | apply Sq.abs | apply Sq.max | apply Sq.min | exact Sq.of (by decide) (by decide) | exact Sq.whole (by assumption) | exact Sq.floor1 (by assumption) | exact Sq.ceil1 (by assumption)))) (by first | assumption | exact Sq.isQ (by repeat (first | assumption | exact IsQ.sq (by assumption) | apply Sq.quo | apply Sq.sub | apply Sq.add | apply Sq.mul | apply Sq.neg | apply Sq.abs | apply Sq.max | apply Sq.min | exact Sq.of (by decide) (by decide) | exact Sq.whole (by assumption) | exact Sq.floor1 (by assumption) | exact Sq.ceil1 (by assumption)))) (by omega) (by omega)) ?_ | refine cl (by exact rfl) plain38 rfl (rcmp_q (by first | assumption | exact Sq.isQ (by repeat (first | assumption | exact IsQ.sq (by assumption) | apply Sq.quo | apply Sq.sub | apply Sq.add | apply Sq.mul | apply Sq.neg | apply Sq.abs | apply Sq.max | apply Sq.min | exact Sq.of (by decide) (by decide) | exact Sq.whole (by assumption) | exact Sq.floor1 (by assumption) | exact Sq.ceil1 (by assumption)))) (by first | assumption | exact Sq.isQ (by repeat (first | assumption | exact IsQ.sq (by assumption) | apply Sq.quo | apply Sq.sub | apply Sq.add | apply Sq.mul | apply Sq.neg | apply Sq.abs | apply Sq.max | apply Sq.min | exact Sq.of (by decide) (by decide) | exact Sq.whole (by assumption) | exact Sq.floor1 (by assumption) | exact Sq.ceil1 (by assumption)))) (by omega) (by omega)) ?_ | refine cl (by exact rfl) plain22 rfl (rsign_q (by first | assumption | exact Sq.isQ (by repeat (first | assumption | exact IsQ.sq (by assumption) | apply Sq.quo | apply Sq.sub | apply Sq.add | apply Sq.mul | apply Sq.neg | apply Sq.abs | apply Sq.max | apply Sq.min | exact Sq.of (by decide) (by decide) | exact Sq.whole (by assumption) | exact Sq.floor1 (by assumption) | exact Sq.ceil1 (by assumption)))) (by omega)) ?_ | refine cl (by exact rfl) plain41 rfl sf ?_ | refine cl (by exact rfl) plain41 rfl sc ?_ | refine cl (by exact rfl) plain12 rfl sr1 ?_ | refine cl (by exact rfl) plain12 rfl sr2 ?_ | refine cl (by exact rfl) plain12 rfl (sameQm_t rfl (by repeat (first | assumption | exact IsQ.sq (by assumption) | apply Sq.quo | apply Sq.sub | apply Sq.add | apply Sq.mul | apply Sq.neg | apply Sq.abs | apply Sq.max | apply Sq.min | exact Sq.of (by decide) (by decide) | exact Sq.whole (by assumption) | exact Sq.floor1 (by assumption) | exact Sq.ceil1 (by assumption))) (by omega)) ?_)); exact h.un) : p := f ⟨h⟩
set_option maxRecDepth 100000 in
set_option maxHeartbeats 16000000 in
theorem qtells_r {b1 b2 b3 b4 : Bool} {l1 l2 l3 l4 : List Nat} {s : List UInt8} (hd1 : Dig W l1) (hd2 : Dig W l2) (hd3 : Dig W l3) (hd4 : Dig W l4) (hs : s.length ≤ maxLen) : Ret Tryz.prog 4 [.agg [.bool b1, mW l1, .bool b2, mW l2], .agg [.bool b3, mW l3, .bool b4, mW l4], .str s] (.bool true) := by
  have sa := shortRat_r (b1 := b1) (b2 := b2) (l1 := l1) (l2 := l2) (n := 5)
  have sb := shortRat_r (b1 := b3) (b2 := b4) (l1 := l3) (l2 := l4) (n := 5)
  by_cases c1 : (decide ((l1.length : Int) ≤ 5) && decide ((l2.length : Int) ≤ 5)) = true
  case neg =>
    rw [Bool.not_eq_true] at c1
    rw [c1] at sa
    refine ret_of (L := L) lay_ok Tryz.func4 rfl Tryz.ntmps4 rfl ?_
    refine go_Y47847e ?_
    refine ⟨_, rfl, ?_⟩
    rfl
  by_cases c2 : (decide ((l3.length : Int) ≤ 5) && decide ((l4.length : Int) ≤ 5)) = true
  case neg =>
    rw [Bool.not_eq_true] at c2
    rw [c1] at sa
    rw [c2] at sb
    refine ret_of (L := L) lay_ok Tryz.func4 rfl Tryz.ntmps4 rfl ?_
    refine go_Y47847e ?_
    refine ⟨_, rfl, ?_⟩
    rfl
  by_cases c3 : s.length ≤ 1300
  case neg =>
    rw [c1] at sa
    rw [c2] at sb
    refine ret_of (L := L) lay_ok Tryz.func4 rfl Tryz.ntmps4 rfl ?_
    refine go_Y47847e ?_
    refine awp_cT rfl (by rw [decide_eq_true_eq]; omega) ?_
    refine go_Y47847e ?_
    refine ⟨_, rfl, ?_⟩
    rfl
  rw [c1] at sa
  rw [c2] at sb
  obtain ⟨a, ia⟩ := isQ_of (b1 := b1) (b2 := b2) hd1 hd2 (n := 5) (by omega) c1
  obtain ⟨b, ib⟩ := isQ_of (b1 := b3) (b2 := b4) hd3 hd4 (n := 5) (by omega) c2
  simp only [Bool.and_eq_true, decide_eq_true_eq] at c1 c2
  have ca := copyRat_r (b1 := b1) (b2 := b2) hd1 hd2 (by omega) (by omega)
  have cb := copyRat_r (b1 := b3) (b2 := b4) hd3 hd4 (by omega) (by omega)
  have sr1 := sameRaw_t (b1 := b1) (b2 := b2) (l1 := l1) (l2 := l2) (by omega) (by omega)
  have sr2 := sameRaw_t (b1 := b3) (b2 := b4) (l1 := l3) (l2 := l4) (by omega) (by omega)
  have i1 : IsZ (.agg [.bool b1, mW l1]) (sg b1 (Tw.val W l1)) 5 := ⟨b1, l1, rfl, hd1, by omega, rfl⟩
  have i2 : IsZ (.agg [.bool b2, mW l2]) (sg b2 (Tw.val W l2)) 5 := ⟨b2, l2, rfl, hd2, by omega, rfl⟩
  have sqm : Sq (sg b1 (Tw.val W l1) /. sg b2 (Tw.val W l2)) 5 := Sq.div i1.sz i2.sz (by omega)
  have sqw : Sq ((sg b1 (Tw.val W l1) : Int) : Rat) 5 := Sq.int i1.sz (by omega)
  have mk1 := make_q i1 i2 (by omega) (by omega)
  have mk2 := rmake_q i1 i2 (by omega) (by omega)
  have wh1 := whole_q i1 (by omega)
  have iw : IsQ (.agg [.bool b1, mW l1, .bool false, mW []]) ((sg b1 (Tw.val W l1) : Int) : Rat) 5 := ⟨b1, l1, false, [], rfl, hd1, Dig.nil _, by omega, by simp, by omega, by
    have := Rat.num_divInt_den ((sg b1 (Tw.val W l1) : Int) : Rat)
    simp only [Rat.num_intCast, Rat.den_intCast] at this
    unfold denI
    rw [if_pos rfl]
    exact this.symm⟩
  have wh2 := Ret.weak (ms' := [.agg [.bool b1, mW l1, .bool false, .nil]]) (rnorm_q iw (by omega)) (.cons (le_agg (.cons (Le.refl _) (.cons (Le.refl _) (.cons (Le.refl _) (.cons le_nil .nil))))) .nil) (Le.refl _)
  have pp := parseQ_r hs
  have pr := rparseQ_r hs
  have sqp := parseQ_sq s
  generalize parseQ s = pq at *
  have tx1 := textQ_r ia (by omega)
  have tx2 := rtextQ_r ia (by omega)
  generalize textQ a = T at tx1 tx2
  have sf := sameZ_r (rfl : a.floor = a.floor) ⟨ia.sq.floor⟩ (by omega)
  have sc := sameZ_r (rfl : a.ceil = a.ceil) ⟨ia.sq.ceil⟩ (by omega)
  have kf := floor_q ia (by omega)
  have kc := ceil_q ia (by omega)
  have rf := rfloor_q ia (by omega)
  have rc := rceil_q ia (by omega)
  generalize a.floor = fa at *
  generalize a.ceil = ca' at *
  have dv := div_q ia ib (by omega) (by omega)
  have sgb := sign_q ib (by omega)
  have rsb := rsign_q ib (by omega)
  have hcs : (signQ b = -1 ∧ b ≠ 0) ∨ (signQ b = 0 ∧ b = 0) ∨ (signQ b = 1 ∧ b ≠ 0) := by
    rcases signQ_cases b with ⟨e, h⟩ | ⟨e, h⟩ | ⟨e, h⟩
    · exact .inl ⟨e, fun h0 => by rw [h0] at h; exact absurd h (by decide)⟩
    · exact .inr (.inl ⟨e, h⟩)
    · exact .inr (.inr ⟨e, fun h0 => by rw [h0] at h; exact absurd h (by decide)⟩)
  rcases hcs with ⟨e, h⟩ | ⟨e, h⟩ | ⟨e, h⟩
  all_goals
    rw [e] at sgb rsb
    first | rw [if_neg h] at dv | rw [if_pos h] at dv
    refine ret_of (L := L) lay_ok Tryz.func4 rfl Tryz.ntmps4 rfl ?_
    refine go_Y47847e ?_
    refine awp_cF rfl (by rw [decide_eq_false_iff_not]; omega) ?_
    refine go_Y47847e ?_
    refine ar_eq 177 rfl (d' := .im (.bool true)) (eqt (beq_self_eq_true _)) ?_
    refine go_Y47847e ?_
    refine ar_eq 186 rfl (d' := .im (.bool true)) (eqt (beq_self_eq_true _)) ?_
    refine go_Y47847e ?_
    refine ar_eq 196 rfl (d' := .im (.bool true)) (eqt (by rw [sameb]; exact beq_self_eq_true _)) ?_
    refine go_Y47847e ?_
    refine ar_eq 207 rfl (d' := .im (.bool true)) (eqt (by rw [den_len]; exact beq_self_eq_true _)) ?_
    refine go_Y47847e ?_
    refine ar_eq 245 rfl (d' := .im (.bool true)) (eqt (beq_self_eq_true _)) ?_
    refine go_Y47847e ?_
    refine ar_eq 250 rfl (d' := .im (.bool true)) (eqt (beq_self_eq_true _)) ?_
    refine go_Y47847e ?_
    refine ⟨_, rfl, ?_⟩
    rfl
end Go.Proofs.YtpahppekalgegaaGreat

/- The reader of tokens: blanks. -/
import Derived.Test.YtkbhchlecokpiaaGreatFwK4
namespace Go.Proofs.YtkbhchlecokpiaaGreat
open Go Go.RowKit Fw Tw Rat
set_option linter.unusedVariables false
set_option linter.unusedSimpArgs false
/-- a reader of a text, by what is left of it -/
abbrev rS (x r : List UInt8) : List M := rdr x (x.length - r.length) (1 + (x.count 10 - r.count 10))
theorem suf_get {x b : List UInt8} {c : UInt8} (h : (c :: b) <:+ x) : x[(((x.length - (c :: b).length : Nat)) : Int).toNat]? = some c := by
  obtain ⟨p, rfl⟩ := h
  rw [Int.toNat_natCast, List.length_append, Nat.add_sub_cancel, List.getElem?_append_right (by omega), Nat.sub_self]
  rfl
theorem suf_cnt {x r : List UInt8} (h : r <:+ x) : r.length ≤ x.length ∧ r.count 10 ≤ x.count 10 := ⟨h.length_le, h.sublist.count_le 10⟩
theorem while_s {so : UInt8 → Bool} {g : FuncId} {x r : List UInt8} (hr : r <:+ x) (hx : x.length ≤ 262144) (hp : Plain Tryz.prog g) (hg : Tests g so) :
    RetP Tryz.prog 98 127 (rS x r) [.fn g] (.str (r.takeWhile so)) (rS x (r.dropWhile so)) := by
  obtain ⟨p, rfl⟩ := hr
  have hml : maxLen = 9223372036854775807 := rfl
  have hx' := hx
  rw [List.length_append] at hx'
  have hc : (p ++ r).count 10 ≤ (p ++ r).length := List.count_le_length
  have h1 : r.takeWhile so ++ r.dropWhile so = r := List.takeWhile_append_dropWhile
  have h2 : (r.takeWhile so).length + (r.dropWhile so).length = r.length := by
    have := congrArg List.length h1
    rwa [List.length_append] at this
  have h3 : (r.takeWhile so).count 10 + (r.dropWhile so).count 10 = r.count 10 := by
    have := congrArg (List.count 10) h1
    rwa [List.count_append] at this
  have h4 : (p ++ r).count 10 = p.count 10 + r.count 10 := List.count_append
  have h5 : (p ++ r).length = p.length + r.length := List.length_append
  have := while_r hp hg (pre := p) (r := r) (l := 1 + p.count 10) (by omega) (by omega)
  have e1 : p.length = (p ++ r).length - r.length := by omega
  have e2 : 1 + p.count 10 = 1 + ((p ++ r).count 10 - r.count 10) := by omega
  have e3 : p.length + (r.takeWhile so).length = (p ++ r).length - (r.dropWhile so).length := by omega
  have e4 : 1 + p.count 10 + (r.takeWhile so).count 10 = 1 + ((p ++ r).count 10 - (r.dropWhile so).count 10) := by omega
  rw [e3, e4, e2] at this
  rw [show rS (p ++ r) r = rdr (p ++ r) p.length (1 + ((p ++ r).count 10 - r.count 10)) by unfold rS; rw [← e1]]
  exact this
theorem drop_len {so : UInt8 → Bool} : ∀ r : List UInt8, (r.dropWhile so).length ≤ r.length := fun r => (List.dropWhile_suffix so).length_le
/-- blanks and remarks are passed -/
def skip (r : List UInt8) : List UInt8 := match h : r.dropWhile isGap with
  | [] => []
  | c :: b => if c = 35 then skip (b.dropWhile notNl) else c :: b
termination_by r.length
decreasing_by
  have h1 := drop_len (so := notNl) b
  have h2 := drop_len (so := isGap) r
  rw [h, List.length_cons] at h2
  omega
theorem skip_nil {r : List UInt8} (h : r.dropWhile isGap = []) : skip r = [] := by
  unfold skip
  split
  · rfl
  · rename_i c b h'; rw [h] at h'; cases h'
theorem skip_hash {r b : List UInt8} (h : r.dropWhile isGap = 35 :: b) : skip r = skip (b.dropWhile notNl) := by
  conv => lhs; unfold skip
  split
  · rename_i h'; rw [h] at h'; cases h'
  · rename_i c b' h'; rw [h] at h'; cases h'; rw [if_pos rfl]
theorem skip_stop {r b : List UInt8} {c : UInt8} (h : r.dropWhile isGap = c :: b) (hc : c ≠ 35) : skip r = c :: b := by
  unfold skip
  split
  · rename_i h'; rw [h] at h'; cases h'
  · rename_i c b' h'; rw [h] at h'; cases h'; rw [if_neg hc]
theorem skip_suf : ∀ (n : Nat) (r : List UInt8), r.length = n → skip r <:+ r := by
  intro n
  induction n using Nat.strongRecOn with
  | _ n ih =>
    intro r hn
    have hs := List.dropWhile_suffix isGap (l := r)
    have h2 := drop_len (so := isGap) r
    unfold skip
    split
    · exact List.nil_suffix
    · rename_i c b h
      rw [h] at hs h2
      split
      · have h1 := drop_len (so := notNl) b
        rw [List.length_cons] at h2
        exact ((ih _ (by omega) _ rfl).trans (List.dropWhile_suffix notNl)).trans ((List.suffix_cons c b).trans hs)
      · exact hs
set_option maxHeartbeats 4000000 in
theorem blanks_s {x r : List UInt8} (hr : r <:+ x) (hx : x.length ≤ 262144) : RetP Tryz.prog 67 127 (rS x r) [] (.tup []) (rS x (skip r)) := by
  refine retB_of (L := L) lay_ok Tryz.func67 rfl Tryz.ntmps67 rfl rfl (fun bl => ?_)
  refine goq ?_
  refine awp_loop1 (A := List UInt8) (fun q => q <:+ x ∧ skip q = skip r) (fun q => [(0, some (.ptr 0 0))]) (fun q => [(0, some (.bx (bl 0) 127 (rdD x (x.length - q.length) (1 + (x.count 10 - q.count 10)))))]) (fun q => q.length) r ⟨hr, rfl⟩ ?_ ?_
  · exact gou0
  · rintro q ⟨h1, h2⟩
    change Awp _ _ _ _ [(0, some (.ptr 0 0))] [(0, some (.bx (bl 0) 127 (rdD x (x.length - q.length) (1 + (x.count 10 - q.count 10)))))]
    refine go ?_
    refine clq plain98 (while_s h1 hx plain99 gap_r) ?_
    have hs : q.dropWhile isGap <:+ x := (List.dropWhile_suffix isGap).trans h1
    have hl := drop_len (so := isGap) q
    rcases hq : q.dropWhile isGap with _ | ⟨c, b⟩
    · have hz := skip_nil hq
      rw [h2] at hz
      rw [hz]
      refine go ?_
      refine ar_eq 14 rfl (d' := .im (.bool true)) (eqt (by rw [decide_eq_true_eq]; simp only [List.length_nil]; omega)) ?_
      refine go ?_
      exact ⟨⟨_, rfl, rfl⟩, ⟨_, rfl, rfl⟩, trivial⟩
    · rw [hq] at hs hl
      have hg := suf_get hs
      have hle := hs.length_le
      have hlc : (c :: b).length = b.length + 1 := rfl
      refine go ?_
      refine ar_eq 14 rfl (d' := .im (.bool false)) (eqt (by rw [decide_eq_false_iff_not]; omega)) ?_
      refine go ?_
      refine ar_indexStr (c := c) (wantF_ok rfl) rfl rfl rfl rfl rfl (by omega) hg ?_
      refine go ?_
      by_cases hc : c = 35
      · subst hc
        refine awp_cF rfl rfl ?_
        refine go ?_
        refine clq plain98 (while_s hs hx plain100 nl_r) ?_
        refine go ?_
        have hd : (35 :: b : List UInt8).dropWhile notNl = b.dropWhile notNl := rfl
        have hl2 := drop_len (so := notNl) b
        refine ⟨b.dropWhile notNl, ⟨(List.dropWhile_suffix notNl).trans ((List.suffix_cons _ b).trans hs), by rw [← skip_hash hq]; exact h2⟩, ?_, by omega⟩
        exact gou0
      · refine awp_cT rfl (by have := u8ne hc; simpa using this) ?_
        refine go ?_
        have hz := skip_stop hq hc
        rw [h2] at hz
        rw [hz]
        exact ⟨⟨_, rfl, rfl⟩, ⟨_, rfl, rfl⟩, trivial⟩
end Go.Proofs.YtkbhchlecokpiaaGreat

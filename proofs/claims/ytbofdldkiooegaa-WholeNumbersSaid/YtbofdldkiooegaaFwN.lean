/- A program logic over data: the steps that reckon themselves. -/
import Derived.Test.YtbofdldkiooegaaFwM
namespace Fw
open Go Go.RowKit
set_option linter.unusedVariables false
set_option linter.unusedSimpArgs false
set_option linter.unusedSectionVars false

abbrev R := Eff × TL × HL

def ikEq : IntKind → IntKind → Bool
  | .i8, .i8 | .i16, .i16 | .i32, .i32 | .i64, .i64 | .u8, .u8 | .u16, .u16 | .u32, .u32 | .u64, .u64 => true
  | _, _ => false
theorem ikEq_eq {a b : IntKind} (h : ikEq a b = true) : a = b := by cases a <;> cases b <;> first | rfl | cases h

def wantF (T : Nat → Option D) (ops : Array Oper) : Option (Nat × Bool) → Option Bool
  | none => some true
  | some (j, want) => match dstOf ops j with
    | some d => match T d with
      | some (.im (.bool true)) => some want
      | some (.im (.bool false)) => some (!want)
      | some (.im (.tup [])) => some false
      | _ => none
    | none => none
theorem wantF_ok {T : Nat → Option D} {ops : Array Oper} {g : Option (Nat × Bool)} {r : Bool} (h : wantF T ops g = some r) : Want T ops g r := by
  unfold wantF at h
  split at h
  · simp only [Option.some.injEq] at h; subst h; exact .free
  · split at h
    · rename_i hd
      split at h
      · rename_i ht; simp only [Option.some.injEq] at h; exact .told hd ht (by rw [← h]; cases ‹Bool› <;> rfl)
      · rename_i ht; simp only [Option.some.injEq] at h; exact .told hd ht (by rw [← h]; cases ‹Bool› <;> rfl)
      · rename_i ht; simp only [Option.some.injEq] at h; subst h; exact .past hd ht
      · cases h
    · cases h

def val1 (t : TL) (h : HL) (dst : Option Nat) : Option D → Option R
  | some d => match dst with
    | some k => some (⟨some d, [], [], []⟩, (k, some d) :: t, h)
    | none => none
  | none => none
def new1 (t : TL) (h : HL) (dst : Option Nat) (T : Nat) (cs : Option (List D)) : Option R := match cs with
  | some cs => match dst with
    | some k => bif freshT k t && freshH k h then some (⟨some (.ptr k 0), [(k, some (.box T cs))], [k], []⟩, (k, some (.ptr k 0)) :: t, (k, some (.box T cs)) :: h) else none
    | none => none
  | none => none
def load1 (t : TL) (h : HL) (dst : Option Nat) (id : Nat) : Option D → Option R
  | some d => match dst with
    | some k => some (⟨some d, [], [], [id]⟩, (k, some d) :: t, h)
    | none => none
  | none => none

def loadF (i : TI) (off : Nat) (cs : List D) : Option D := match aggD i.desc with
  | true => bif Nat.ble (off + i.size) cs.length then mkAggO ((cs.drop off).take i.size) else none
  | false => cs[off]?
def fieldD (L : Nat → Option TI) (T j : Nat) : Option (Nat × TI) := match L T with
  | some i => match i.desc with
    | .struct fs => match fs[j]? with
      | some f => match L f.type with
        | some fi => some (f.offset, fi)
        | none => none
      | none => none
    | _ => none
  | none => none
theorem fieldD_ok {L : Nat → Option TI} {T j off : Nat} {fi : TI} (h : fieldD L T j = some (off, fi)) : ∃ i fs f, L T = some i ∧ i.desc = .struct fs ∧ fs[j]? = some f ∧ L f.type = some fi ∧ f.offset = off := by
  unfold fieldD at h
  split at h
  · rename_i i hi
    split at h
    · rename_i fs hf
      split at h
      · rename_i f hj
        split at h
        · rename_i fi' hfi
          simp only [Option.some.injEq, Prod.mk.injEq] at h
          obtain ⟨rfl, rfl⟩ := h
          exact ⟨i, fs, f, hi, hf, hj, hfi, rfl⟩
        · cases h
      · cases h
    · cases h
  · cases h

def sliceElem (L : Nat → Option TI) (T : Nat) : Option (Nat × TI) := match L T with
  | some i => match i.desc with
    | .slice e => match L e with
      | some ei => some (e, ei)
      | none => none
    | _ => none
  | none => none
theorem sliceElem_ok {L : Nat → Option TI} {T e : Nat} {ei : TI} (h : sliceElem L T = some (e, ei)) : ∃ i, L T = some i ∧ i.desc = .slice e ∧ L e = some ei := by
  unfold sliceElem at h
  split at h
  · rename_i i hi
    split at h
    · rename_i e' hf
      split at h
      · rename_i ei' hei
        simp only [Option.some.injEq, Prod.mk.injEq] at h
        obtain ⟨rfl, rfl⟩ := h
        exact ⟨i, hi, hf, hei⟩
      · cases h
    · cases h
  · cases h

def buildF (L : Nat → Option TI) (ρ : Operand → Option D) (T : Nat) (parts : List (Nat × Operand)) : Option D := match L T with
  | some i => match i.desc with
    | .struct fs => match fs.toList.all (fun (f : Field) => (L f.type).isSome) with
      | true => match fillD ρ (place L fs) ((mcells i.mz).map .im) parts with
        | some cs => match normL cs with
          | some cs' => mkAggO cs'
          | none => none
        | none => none
      | false => none
    | _ => none
  | none => none

def binF (L : Nat → Option TI) (op : BinOp) (T : Nat) : Option D → Option D → Option D
  | some (.im (.int k a)), some (.im (.int k' b)) => match ikEq k k' with
    | true => match intOp op k a b with
      | some m => some (.im m)
      | none => none
    | false => none
  | some (.im (.str a)), some (.im (.str b)) => match strOp op a b with
    | some m => some (.im m)
    | none => none
  | some (.im (.bool a)), some (.im (.bool b)) => match L T with
    | some i => match i.desc with
      | .bool => match boolOp op a b with
        | some m => some (.im m)
        | none => none
      | _ => none
    | none => none
  | _, _ => none

def lenF (L : Nat → Option TI) (T : Nat) : Option D → Option D
  | some (.im (.str s)) => match L T with
    | some i => match i.desc with
      | .string => some (.im (.int .i64 s.length))
      | _ => none
    | none => none
  | some (.im (.seq n _)) => match L T with
    | some i => match i.desc with
      | .slice _ => some (.im (.int .i64 n))
      | _ => none
    | none => none
  | some (.im .nil) => match L T with
    | some i => match i.desc with
      | .slice _ => some (.im (.int .i64 0))
      | _ => none
    | none => none
  | some (.row _ n _) => match L T with
    | some i => match i.desc with
      | .slice _ => some (.im (.int .i64 n))
      | _ => none
    | none => none
  | _ => none

/-- an operation's step, where it can be reckoned -/
def stepF (L : Nat → Option TI) (t : TL) (h : HL) (op : Op) (dst : Option Nat) : Option R := match op with
  | .move x => val1 t h dst (ev (lookT t) x)
  | .assign x => val1 t h dst (ev (lookT t) x)
  | .pick c x y => match ev (lookT t) c with
    | some (.im (.bool true)) => val1 t h dst (ev (lookT t) x)
    | some (.im (.bool false)) => val1 t h dst (ev (lookT t) y)
    | _ => none
  | .alloc T => match L T with
    | some i => new1 t h dst T (normL ((mcells i.mz).map .im))
    | none => none
  | .box T x => match ev (lookT t) x with
    | some d => match whole d with
      | true => new1 t h dst T (normL (dcells d))
      | false => none
    | none => none
  | .load T p => match ev (lookT t) p with
    | some (.ptr id off) => match lookH h id with
      | some (.box _ cs) => match L T with
        | some i => load1 t h dst id (loadF i off cs)
        | none => none
      | _ => none
    | some (.ep cs) => match L T with
      | some i => match aggD i.desc with
        | false => match cs[0]? with
          | some m => val1 t h dst (some (.im m))
          | none => none
        | true => bif Nat.ble i.size cs.length then (match normL (cs.take i.size) with
          | some ms => val1 t h dst (some (.im (.agg ms)))
          | none => none) else none
      | none => none
    | _ => none
  | .store T p x => match ev (lookT t) p with
    | some (.ptr id off) => match lookH h id with
      | some (.box tb cs) => match L T with
        | some i => match ev (lookT t) x with
          | some d => match whole d && Nat.beq (dcells d).length i.size && Nat.ble (off + i.size) cs.length with
            | true => match normL (splice cs off (dcells d)) with
              | some cs' => match dst with
                | none => some (⟨none, [(id, some (.box tb cs'))], [], [id]⟩, t, (id, some (.box tb cs')) :: h)
                | some _ => none
              | none => none
            | false => none
          | none => none
        | none => none
      | _ => none
    | _ => none
  | .fieldAddr T x j => match ev (lookT t) x with
    | some (.ptr id off) => match fieldD L T j with
      | some (fo, fi) => match Nat.beq fi.size 0 with
        | false => val1 t h dst (some (.ptr id (off + fo)))
        | true => none
      | none => none
    | some (.ep cs) => match fieldD L T j with
      | some (fo, fi) => match Nat.beq fi.size 0 with
        | false => val1 t h dst (some (.ep (cs.drop fo)))
        | true => none
      | none => none
    | _ => none
  | .field T x j => match ev (lookT t) x with
    | some (.im (.agg ms)) => match fieldD L T j with
      | some (fo, fi) => match aggD fi.desc with
        | false => match ms[fo]? with
          | some m => val1 t h dst (some (.im m))
          | none => none
        | true => match normL ((ms.drop fo).take fi.size) with
          | some ms' => val1 t h dst (some (.im (.agg ms')))
          | none => none
      | none => none
    | _ => none
  | .build T parts => val1 t h dst (buildF L (ev (lookT t)) T parts.toList)
  | .buildSlice T len parts => match sliceElem L T with
    | some (e, ei) => match Nat.ble 1 ei.size && Nat.ble (len * ei.size) 16777216 with
      | true => match fillM (ev (lookT t)) (fun k => some (k * ei.size, ei.size)) (List.replicate len (mcells ei.mz)).flatten parts.toList with
        | some cs => match normL cs with
          | some cs' => match dst with
            | some k => bif freshT k t && freshH k h then some (⟨some (.row k len ei.size), [(k, some (.rw e ei.size cs'))], [k], []⟩, (k, some (.row k len ei.size)) :: t, (k, some (.rw e ei.size cs')) :: h) else none
            | none => none
          | none => none
        | none => none
      | false => none
    | none => none
  | .extract x j => match ev (lookT t) x with
    | some (.im (.tup ms)) => match ms[j]? with
      | some m => val1 t h dst (some (.im m))
      | none => none
    | some (.tup ds) => val1 t h dst ds[j]?
    | _ => none
  | .makeFunc fn first caps => match fn with
    | .func f => match first.toList with
      | [] => match evL (ev (lookT t)) caps.toList with
        | some ds => val1 t h dst (some (.fn f ds))
        | none => none
      | _ => none
    | _ => none
  | .binOp op T x y _ => val1 t h dst (binF L op T (ev (lookT t) x) (ev (lookT t) y))
  | .unOp op _ x => match op with
    | .not => match ev (lookT t) x with
      | some (.im (.bool b)) => val1 t h dst (some (.im (.bool (!b))))
      | _ => none
    | .neg => match ev (lookT t) x with
      | some (.im (.int k n)) => val1 t h dst (some (.im (.int k (k.wrap (0 - n)))))
      | _ => none
    | _ => none
  | .convert S T x => match ev (lookT t) x with
    | some (.im (.int _ n)) => match L S with
      | some _ => match L T with
        | some i => match i.desc with
          | .int k => val1 t h dst (some (.im (.int k (k.wrap n))))
          | _ => none
        | none => none
      | none => none
    | _ => none
  | .call c => match c.callee with
    | .builtin b => match b with
      | .len => match c.args.toList with
        | [x] => match c.argTypes.toList with
          | [T] => val1 t h dst (lenF L T (ev (lookT t) x))
          | _ => none
        | _ => none
      | _ => none
    | _ => none
  | .nilCheck x => match ev (lookT t) x with
    | some (.ptr id off) => val1 t h dst (some (.ptr id off))
    | some (.ep cs) => val1 t h dst (some (.ep cs))
    | _ => none
  | _ => none

def opF (L : Nat → Option TI) (N : Nat) (ops : Array Oper) (t : TL) (h : HL) (o : Oper) : Option R := match dstOk N o.dst with
  | true => match wantF (lookT t) ops o.guard with
    | some true => stepF L t h o.op o.dst
    | some false => match o.dst with
      | some k => some (⟨some (.im (.tup [])), [], [], []⟩, (k, some (.im (.tup []))) :: t, h)
      | none => some (⟨some (.im (.tup [])), [], [], []⟩, t, h)
    | none => none
  | false => none

section
variable {P : Program} {L : Nat → Option TI} {N : Nat} {ops : Array Oper} {t t' : TL} {h h' : HL} {e : Eff}

/-- what a step that was reckoned says -/
def StepsTo (P : Program) (L : Nat → Option TI) (t : TL) (h : HL) (op : Op) (dst : Option Nat) (ty : TypeId) (e : Eff) (t' : TL) (h' : HL) : Prop :=
  Step P L (ev (lookT t)) (lookH h) op dst ty e ∧ freshAll t h e.nw = true ∧ t' = putL t dst e.r ∧ h' = e.ch ++ h

theorem val1_ok {op : Op} {dst : Option Nat} {ty : TypeId} {d : Option D} (hv : val1 t h dst d = some (e, t', h')) (hs : ∀ d' k, d = some d' → dst = some k → Step P L (ev (lookT t)) (lookH h) op dst ty (val d')) : StepsTo P L t h op dst ty e t' h' := by
  unfold val1 at hv
  split at hv
  · split at hv
    · simp only [Option.some.injEq, Prod.mk.injEq] at hv
      obtain ⟨rfl, rfl, rfl⟩ := hv
      exact ⟨hs _ _ rfl rfl, rfl, rfl, rfl⟩
    · cases hv
  · cases hv
theorem load1_ok {op : Op} {dst : Option Nat} {ty : TypeId} {d : Option D} {id : Nat} (hv : load1 t h dst id d = some (e, t', h')) (hs : ∀ d' k, d = some d' → dst = some k → Step P L (ev (lookT t)) (lookH h) op dst ty ⟨some d', [], [], [id]⟩) : StepsTo P L t h op dst ty e t' h' := by
  unfold load1 at hv
  split at hv
  · split at hv
    · simp only [Option.some.injEq, Prod.mk.injEq] at hv
      obtain ⟨rfl, rfl, rfl⟩ := hv
      exact ⟨hs _ _ rfl rfl, rfl, rfl, rfl⟩
    · cases hv
  · cases hv
theorem new1_ok {op : Op} {dst : Option Nat} {ty : TypeId} {T : Nat} {cs : Option (List D)} (hv : new1 t h dst T cs = some (e, t', h')) (hs : ∀ cs' k, cs = some cs' → dst = some k → Step P L (ev (lookT t)) (lookH h) op (some k) ty ⟨some (.ptr k 0), [(k, some (.box T cs'))], [k], []⟩) : StepsTo P L t h op dst ty e t' h' := by
  unfold new1 at hv
  split at hv
  · split at hv
    · rename_i k
      cases hb : (freshT k t && freshH k h) with
      | false => rw [hb] at hv; cases hv
      | true =>
        rw [hb] at hv
        simp only [cond_true, Option.some.injEq, Prod.mk.injEq] at hv
        obtain ⟨rfl, rfl, rfl⟩ := hv
        exact ⟨hs _ _ rfl rfl, by simp only [freshAll, Bool.and_true]; exact hb, rfl, rfl⟩
    · cases hv
  · cases hv

theorem stepF_ok {op : Op} {dst : Option Nat} {ty : TypeId} (hv : stepF L t h op dst = some (e, t', h')) : StepsTo P L t h op dst ty e t' h' := by
  unfold stepF at hv
  split at hv
  · exact val1_ok hv fun d k hd _ => .move hd
  · exact val1_ok hv fun d k hd _ => .assign hd
  · split at hv
    · rename_i hc; exact val1_ok hv fun d k hd _ => .pick hc hd
    · rename_i hc; exact val1_ok hv fun d k hd _ => .pick hc hd
    · cases hv
  · split at hv
    · rename_i hi
      exact new1_ok hv fun cs k hcs _ => by rw [← normL_eq hcs]; exact .alloc hi
    · cases hv
  · split at hv
    · rename_i hx
      split at hv
      · rename_i hw
        exact new1_ok hv fun cs k hcs _ => by rw [← normL_eq hcs]; exact .box hx hw
      · cases hv
    · cases hv
  · split at hv
    · rename_i hp
      split at hv
      · rename_i hg
        split at hv
        · rename_i i hi
          refine load1_ok hv fun d k hd _ => ?_
          unfold loadF at hd
          split at hd
          · rename_i ha
            cases hb : Nat.ble _ _ with
            | false => rw [hb] at hd; cases hd
            | true =>
              rw [hb] at hd
              rw [← mkAggO_eq hd]
              exact .loadBA hp hg hi ha (Nat.le_of_ble_eq_true hb)
          · rename_i ha
            exact .loadB hp hg hi ha hd
        · cases hv
      · cases hv
    · rename_i hp
      split at hv
      · rename_i i hi
        split at hv
        · rename_i ha
          split at hv
          · rename_i m hm
            exact val1_ok hv fun d k hd _ => by cases hd; exact .loadE hp hi ha hm
          · cases hv
        · rename_i ha
          cases hb : Nat.ble i.size _ with
          | false => rw [hb] at hv; cases hv
          | true =>
            rw [hb] at hv
            simp only [cond_true] at hv
            split at hv
            · rename_i ms hm
              exact val1_ok hv fun d k hd _ => by cases hd; rw [← normL_eq hm]; exact .loadEA hp hi ha (Nat.le_of_ble_eq_true hb)
            · cases hv
      · cases hv
    · cases hv
  · split at hv
    · rename_i hp
      split at hv
      · rename_i hg
        split at hv
        · rename_i i hi
          split at hv
          · rename_i d hx
            split at hv
            · rename_i hb
              split at hv
              · rename_i cs' hcs
                split at hv
                · simp only [Option.some.injEq, Prod.mk.injEq] at hv
                  obtain ⟨rfl, rfl, rfl⟩ := hv
                  simp only [Bool.and_eq_true] at hb
                  refine ⟨?_, rfl, rfl, rfl⟩
                  rw [← normL_eq hcs]
                  exact .storeB hp hx hb.1.1 hg hi (Nat.eq_of_beq_eq_true hb.1.2) (Nat.le_of_ble_eq_true hb.2)
                · cases hv
              · cases hv
            · cases hv
          · cases hv
        · cases hv
      · cases hv
    · cases hv
  · split at hv
    · rename_i hp
      split at hv
      · rename_i fo fi hf
        split at hv
        · rename_i hz
          obtain ⟨i, fs, f, h1, h2, h3, h4, rfl⟩ := fieldD_ok hf
          exact val1_ok hv fun d k hd _ => by cases hd; exact .fieldP hp h1 h2 h3 h4 (by intro he; rw [he] at hz; cases hz)
        · cases hv
      · cases hv
    · rename_i hp
      split at hv
      · rename_i fo fi hf
        split at hv
        · rename_i hz
          obtain ⟨i, fs, f, h1, h2, h3, h4, rfl⟩ := fieldD_ok hf
          exact val1_ok hv fun d k hd _ => by cases hd; exact .fieldE hp h1 h2 h3 h4 (by intro he; rw [he] at hz; cases hz)
        · cases hv
      · cases hv
    · cases hv
  · split at hv
    · rename_i hp
      split at hv
      · rename_i fo fi hf
        obtain ⟨i, fs, f, h1, h2, h3, h4, rfl⟩ := fieldD_ok hf
        split at hv
        · rename_i ha
          split at hv
          · rename_i m hm
            exact val1_ok hv fun d k hd _ => by cases hd; exact .fieldM hp h1 h2 h3 h4 ha hm
          · cases hv
        · rename_i ha
          split at hv
          · rename_i ms' hm
            exact val1_ok hv fun d k hd _ => by cases hd; rw [← normL_eq hm]; exact .fieldMA hp h1 h2 h3 h4 ha
          · cases hv
      · cases hv
    · cases hv
  · refine val1_ok hv fun d k hd _ => ?_
    unfold buildF at hd
    split at hd
    · rename_i i hi
      split at hd
      · rename_i fs hf
        split at hd
        · rename_i ha
          split at hd
          · rename_i cs hcs
            split at hd
            · rename_i cs' hn
              have hn := normL_eq hn
              subst hn
              rw [← mkAggO_eq hd]
              exact .build hi hf ha hcs
            · cases hd
          · cases hd
        · cases hd
      · cases hd
    · cases hd
  · split at hv
    · rename_i e' ei he
      obtain ⟨i, h1, h2, h3⟩ := sliceElem_ok he
      split at hv
      · rename_i hb
        split at hv
        · rename_i cs hcs
          split at hv
          · rename_i cs' hn
            split at hv
            · rename_i k
              cases hfr : (freshT k t && freshH k h) with
              | false => rw [hfr] at hv; cases hv
              | true =>
                rw [hfr] at hv
                simp only [cond_true, Option.some.injEq, Prod.mk.injEq] at hv
                obtain ⟨rfl, rfl, rfl⟩ := hv
                simp only [Bool.and_eq_true] at hb
                have hn := normL_eq hn
                subst hn
                refine ⟨.buildSlice h1 h2 h3 (Nat.le_of_ble_eq_true hb.1) (Nat.le_of_ble_eq_true hb.2) hcs, by simp only [freshAll, Bool.and_true]; exact hfr, rfl, rfl⟩
            · cases hv
          · cases hv
        · cases hv
      · cases hv
    · cases hv
  · split at hv
    · rename_i hx
      split at hv
      · rename_i m hm
        exact val1_ok hv fun d k hd _ => by cases hd; exact .extractM hx hm
      · cases hv
    · rename_i hx
      exact val1_ok hv fun d k hd _ => .extractD hx hd
    · cases hv
  · split at hv
    · rename_i f
      split at hv
      · rename_i hfirst
        split at hv
        · rename_i ds hds
          have hfe := Array.toList_inj.1 (hfirst.trans (show ([] : List Operand) = (#[] : Array Operand).toList from rfl))
          rw [hfe]
          exact val1_ok hv fun d k hd _ => by cases hd; exact .func hds
        · cases hv
      · cases hv
    · cases hv
  · refine val1_ok hv fun d k hd _ => ?_
    unfold binF at hd
    split at hd
    · rename_i h1 h2
      split at hd
      · rename_i hk
        split at hd
        · rename_i m hm
          cases hd
          have := ikEq_eq hk
          subst this
          exact .binInt h1 h2 hm
        · cases hd
      · cases hd
    · rename_i h1 h2
      split at hd
      · rename_i m hm
        cases hd
        exact .binStr h1 h2 hm
      · cases hd
    · rename_i h1 h2
      split at hd
      · rename_i i hi
        split at hd
        · rename_i hf
          split at hd
          · rename_i m hm
            cases hd
            exact .binBool h1 h2 hi hf hm
          · cases hd
        · cases hd
      · cases hd
    · cases hd
  · split at hv
    · split at hv
      · rename_i hx
        exact val1_ok hv fun d k hd _ => by cases hd; exact .not hx
      · cases hv
    · split at hv
      · rename_i hx
        exact val1_ok hv fun d k hd _ => by cases hd; exact .neg hx
      · cases hv
    · cases hv
  · split at hv
    · rename_i hx
      split at hv
      · rename_i hs
        split at hv
        · rename_i i hi
          split at hv
          · rename_i hf
            exact val1_ok hv fun d k hd _ => by cases hd; exact .convInt hx hs hi hf
          · cases hv
        · cases hv
      · cases hv
    · cases hv
  · rename_i c
    obtain ⟨callee, args, ats⟩ := c
    simp only [] at hv
    split at hv
    case h_2 => cases hv
    split at hv
    case h_2 => cases hv
    split at hv
    case h_2 => cases hv
    rename_i ha
    split at hv
    case h_2 => cases hv
    rename_i hat
    have ha := Array.toList_inj.1 (ha.trans (show [_] = (#[_] : Array Operand).toList from rfl))
    have hat := Array.toList_inj.1 (hat.trans (show [_] = (#[_] : Array TypeId).toList from rfl))
    subst ha hat
    refine val1_ok hv fun d k hd _ => ?_
    unfold lenF at hd
    split at hd
    · rename_i hx
      split at hd
      · rename_i i hi
        split at hd
        · rename_i hf; cases hd; exact .lenStr hx hi hf
        · cases hd
      · cases hd
    · rename_i hx
      split at hd
      · rename_i i hi
        split at hd
        · rename_i hf; cases hd; exact .lenSeq hx hi hf
        · cases hd
      · cases hd
    · rename_i hx
      split at hd
      · rename_i i hi
        split at hd
        · rename_i hf; cases hd; exact .lenNil hx hi hf
        · cases hd
      · cases hd
    · rename_i hx
      split at hd
      · rename_i i hi
        split at hd
        · rename_i hf; cases hd; exact .lenRow hx hi hf
        · cases hd
      · cases hd
    · cases hd
  · split at hv
    · rename_i hx
      exact val1_ok hv fun d k hd _ => by cases hd; exact .nilCheckP hx
    · rename_i hx
      exact val1_ok hv fun d k hd _ => by cases hd; exact .nilCheckE hx
    · cases hv
  · cases hv

theorem ar_op {o : Oper} {rest : List Oper} {K : List Eff → TL → HL → Prop} (hv : opF L N ops t h o = some (e, t', h')) (hK : AR P L N ops rest (fun es => K (e :: es)) t' h') : AR P L N ops (o :: rest) K t h := by
  unfold opF at hv
  split at hv
  · rename_i hd
    split at hv
    · rename_i hw
      obtain ⟨h1, h2, rfl, rfl⟩ := stepF_ok (P := P) (ty := o.type) hv
      exact ar_step (wantF_ok hw) h1 hd h2 hK
    · rename_i hw
      split at hv
      · rename_i k hk
        simp only [Option.some.injEq, Prod.mk.injEq] at hv
        obtain ⟨rfl, rfl, rfl⟩ := hv
        obtain ⟨es, t', h', hr, hk'⟩ := hK
        refine ⟨_ :: es, t', h', .skip (wantF_ok hw) hd ?_, hk'⟩
        rw [hk]; exact hr
      · rename_i hk
        simp only [Option.some.injEq, Prod.mk.injEq] at hv
        obtain ⟨rfl, rfl, rfl⟩ := hv
        obtain ⟨es, t', h', hr, hk'⟩ := hK
        refine ⟨_ :: es, t', h', .skip (wantF_ok hw) hd ?_, hk'⟩
        rw [hk]; exact hr
    · cases hv
  · cases hv

/-- a call of a function, by its contract -/
theorem ar_call' {k : Nat} {ty : TypeId} {pos : String} {af : Array Edge} {g : Option (Nat × Bool)} {rest : List Oper} {K : List Eff → TL → HL → Prop} {x : Operand} {args : Array Operand} {ats : Array TypeId} {f : Nat} {ms : List M} {m : M}
    (hw : wantF (lookT t) ops g = some true) (hd : Nat.blt k N = true) (h1 : ev (lookT t) x = some (.im (.fn f))) (h3 : evM (ev (lookT t)) (lookH h) args.toList = some (ms, [])) (h2 : Plain P f) (h4 : Ret P f ms m)
    (hK : AR P L N ops rest (fun es => K (val (.im m) :: es)) ((k, some (.im m)) :: t) h) : AR P L N ops (⟨some k, .call { callee := .value x, args := args, argTypes := ats }, ty, pos, af, g⟩ :: rest) K t h :=
  ar_call (wantF_ok hw) hd h1 h2 h3 h4 hK
theorem ar_callZ' {k : Nat} {ty : TypeId} {pos : String} {af : Array Edge} {g : Option (Nat × Bool)} {rest : List Oper} {K : List Eff → TL → HL → Prop} {x : Operand} {args : Array Operand} {ats : Array TypeId} {f : Nat} {ms : List M} {ids : List Nat} {m : M} {h' : HL}
    (hw : wantF (lookT t) ops g = some true) (hd : Nat.blt k N = true) (h1 : ev (lookT t) x = some (.im (.fn f))) (h3 : evM (ev (lookT t)) (lookH h) args.toList = some (ms, ids)) (h2 : Plain P f) (h4 : Ret P f ms m) (h5 : normL ((ids.map fun i => (i, (none : Option O))) ++ h) = some h')
    (hK : AR P L N ops rest (fun es => K (⟨some (.im m), ids.map fun i => (i, none), [], ids⟩ :: es)) ((k, some (.im m)) :: t) h') : AR P L N ops (⟨some k, .call { callee := .value x, args := args, argTypes := ats }, ty, pos, af, g⟩ :: rest) K t h :=
  ar_callZ (wantF_ok hw) hd h1 h2 h3 h4 (normL_eq h5) hK
end
end Fw

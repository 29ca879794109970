/- A program logic over data: what each operation does with slots and objects. -/
import Derived.Test.YtbofdldkiooegaaFwC
namespace Fw
open Go Go.RowKit
set_option linter.unusedVariables false
set_option linter.unusedSimpArgs false

/-- what is known of a type -/
structure TI where
  desc : TypeDesc
  size : Nat
  bytes : Nat
  zero : Value
  mz : M

def LayOk (P : Program) (L : Nat → Option TI) : Prop := ∀ t i, L t = some i →
  P.underlying t = some i.desc ∧ (∃ inf, P.info? t = some inf ∧ inf.size = i.size ∧ inf.bytes = i.bytes ∧ inf.zero = some i.zero) ∧
  (∀ w, RM (fun _ => False) w i.mz i.zero) ∧ mwhole i.mz = true ∧ i.zero.cells.size = i.size

def aggD : TypeDesc → Bool
  | .struct _ => true
  | .array _ _ => true
  | _ => false

def constD : Value → Option D
  | .int k n => some (.im (.int k n))
  | .bool b => some (.im (.bool b))
  | .string s => some (.im (.str s.data.toList))
  | .slice none 0 0 => some (.im .nil)
  | .pointer none => some (.im .nilp)
  | .nilFunc => some (.im .nilf)
  | .nilIface => some (.im .nili)
  | _ => none

def ev (T : Nat → Option D) : Operand → Option D
  | .tmp t => T t
  | .const v => constD v
  | .func f => some (.im (.fn f))
  | .global _ => none

def evL (ρ : Operand → Option D) : List Operand → Option (List D)
  | [] => some []
  | x :: xs => match ρ x, evL ρ xs with
    | some d, some ds => some (d :: ds)
    | _, _ => none

mutual
/-- what a slot holds, as data, and the rows that were read for it -/
def rdM (g : Nat → Option O) : D → Option (M × List Nat)
  | .im m => some (m, [])
  | .agg ds => match rdL g ds with
    | some (ms, l) => some (.agg ms, l)
    | none => none
  | .tup ds => match rdL g ds with
    | some (ms, l) => some (.tup ms, l)
    | none => none
  | .row id n sz => match g id with
    | some (.rw _ sz' cs) => bif Nat.beq sz sz' && Nat.ble (n * sz) cs.length then some (.seq n (cs.take (n * sz)), [id]) else none
    | _ => none
  | _ => none
def rdL (g : Nat → Option O) : List D → Option (List M × List Nat)
  | [] => some ([], [])
  | d :: ds => match rdM g d, rdL g ds with
    | some (m, l), some (ms, l') => some (m :: ms, l ++ l')
    | _, _ => none
end
/-- arguments as data -/
def evM (ρ : Operand → Option D) (g : Nat → Option O) : List Operand → Option (List M × List Nat)
  | [] => some ([], [])
  | x :: xs => match ρ x with
    | some d => match rdM g d, evM ρ g xs with
      | some (m, l), some (ms, l') => some (m :: ms, l ++ l')
      | _, _ => none
    | none => none

/-- what an operation does: its value, objects that turn, new ones, those that it looks at -/
structure Eff where
  r : Option D
  ch : List (Nat × Option O)
  nw : List Nat
  tch : List Nat

def val (d : D) : Eff := ⟨some d, [], [], []⟩

/-- cells are filled, field by field -/
def fillD (ρ : Operand → Option D) (pl : Nat → Option (Nat × Nat)) : List D → List (Nat × Operand) → Option (List D)
  | cs, [] => some cs
  | cs, (i, x) :: rest => match pl i, ρ x with
    | some (off, size), some d => bif whole d && Nat.beq (dcells d).length size && Nat.ble (off + size) cs.length then fillD ρ pl (splice cs off (dcells d)) rest else none
    | _, _ => none
def fillM (ρ : Operand → Option D) (pl : Nat → Option (Nat × Nat)) : List M → List (Nat × Operand) → Option (List M)
  | cs, [] => some cs
  | cs, (i, x) :: rest => match pl i, (ρ x).bind toM with
    | some (off, size), some d => bif mwhole d && Nat.beq (mcells d).length size && Nat.ble (off + size) cs.length then fillM ρ pl (splice cs off (mcells d)) rest else none
    | _, _ => none

def place (L : Nat → Option TI) (fs : Array Field) (i : Nat) : Option (Nat × Nat) := match fs[i]? with
  | some f => (L f.type).map fun k => (f.offset, k.size)
  | none => none

def intOp : BinOp → IntKind → Int → Int → Option M
  | .add, k, a, b => some (.int k (k.wrap (a + b)))
  | .sub, k, a, b => some (.int k (k.wrap (a - b)))
  | .mul, k, a, b => some (.int k (k.wrap (a * b)))
  | .eql, _, a, b => some (.bool (a == b))
  | .neq, _, a, b => some (.bool (a != b))
  | .lss, _, a, b => some (.bool (decide (a < b)))
  | .leq, _, a, b => some (.bool (decide (a ≤ b)))
  | .gtr, _, a, b => some (.bool (decide (a > b)))
  | .geq, _, a, b => some (.bool (decide (a ≥ b)))
  | _, _, _, _ => none
def divOp : BinOp → IntKind → Int → Int → Option M
  | .quo, k, a, b => some (.int k (k.wrap (a.tdiv b)))
  | .rem, k, a, b => some (.int k (a.tmod b))
  | _, _, _, _ => none
def strOp : BinOp → List UInt8 → List UInt8 → Option M
  | .eql, a, b => some (.bool (a == b))
  | .neq, a, b => some (.bool (!(a == b)))
  | .lss, a, b => some (.bool (Op.bytesLess a b))
  | _, _, _ => none
def boolOp : BinOp → Bool → Bool → Option M
  | .eql, a, b => some (.bool (a == b))
  | .neq, a, b => some (.bool (!(a == b)))
  | _, _, _ => none

/-- called with data, it hands back data, and only makes new things -/
def Ret (P : Program) (f : FuncId) (ms : List M) (m : M) : Prop := ∀ (ok : Nat → Prop) (w : World) (vs : List Value), RMt ok w ms vs →
  Calls P f vs.toArray w fun e w' => ∃ v, e = .returned v ∧ RM (fun b => ok b ∨ w.heap.size ≤ b) w' m v ∧ Below w.heap.size w w'

/-- called with data it ends in no fault of the model's own -/
def Plain (P : Program) (f : FuncId) : Prop := ∃ fn, P.funcs[f]? = some fn ∧ (fn.name == "runtime.NumGoroutine") = false ∧ fn.body.isNone = false

/-- the elements of a slice that is appended, as data -/
inductive News (g : Nat → Option O) : D → Nat → List M → List Nat → Prop
  | nil : News g (.im .nil) 0 [] []
  | seq {n : Nat} {cs : List M} : News g (.im (.seq n cs)) n cs []
  | row {id n sz : Nat} {e : TypeId} {cs : List M} (h : g id = some (.rw e sz cs)) (hl : n * sz ≤ cs.length) : News g (.row id n sz) n (cs.take (n * sz)) [id]

inductive Step (P : Program) (L : Nat → Option TI) (ρ : Operand → Option D) (g : Nat → Option O) : Op → Option Nat → TypeId → Eff → Prop
  | move {x d dst ty} (h : ρ x = some d) : Step P L ρ g (.move x) dst ty (val d)
  | assign {x d dst ty} (h : ρ x = some d) : Step P L ρ g (.assign x) dst ty (val d)
  | pick {c x y b d dst ty} (h : ρ c = some (.im (.bool b))) (h' : ρ (bif b then x else y) = some d) : Step P L ρ g (.pick c x y) dst ty (val d)
  | alloc {t id i ty} (h : L t = some i) : Step P L ρ g (.alloc t) (some id) ty ⟨some (.ptr id 0), [(id, some (.box t ((mcells i.mz).map .im)))], [id], []⟩
  | box {t x d id ty} (h : ρ x = some d) (hw : whole d = true) : Step P L ρ g (.box t x) (some id) ty ⟨some (.ptr id 0), [(id, some (.box t (dcells d)))], [id], []⟩
  | loadB {t p id off tb cs i d dst ty} (h : ρ p = some (.ptr id off)) (hg : g id = some (.box tb cs)) (hi : L t = some i) (ha : aggD i.desc = false) (hd : cs[off]? = some d) : Step P L ρ g (.load t p) dst ty ⟨some d, [], [], [id]⟩
  | loadBA {t p id off tb cs i dst ty} (h : ρ p = some (.ptr id off)) (hg : g id = some (.box tb cs)) (hi : L t = some i) (ha : aggD i.desc = true) (hl : off + i.size ≤ cs.length) : Step P L ρ g (.load t p) dst ty ⟨some (mkAgg ((cs.drop off).take i.size)), [], [], [id]⟩
  | loadR {t p id off e sz cs i m dst ty} (h : ρ p = some (.ptr id off)) (hg : g id = some (.rw e sz cs)) (hi : L t = some i) (ha : aggD i.desc = false) (hd : cs[off]? = some m) : Step P L ρ g (.load t p) dst ty ⟨some (.im m), [], [], [id]⟩
  | loadRA {t p id off e sz cs i dst ty} (h : ρ p = some (.ptr id off)) (hg : g id = some (.rw e sz cs)) (hi : L t = some i) (ha : aggD i.desc = true) (hl : off + i.size ≤ cs.length) (h0 : 0 < cs.length) : Step P L ρ g (.load t p) dst ty ⟨some (.im (.agg ((cs.drop off).take i.size))), [], [], [id]⟩
  | loadE {t p cs i m dst ty} (h : ρ p = some (.ep cs)) (hi : L t = some i) (ha : aggD i.desc = false) (hd : cs[0]? = some m) : Step P L ρ g (.load t p) dst ty (val (.im m))
  | loadEA {t p cs i dst ty} (h : ρ p = some (.ep cs)) (hi : L t = some i) (ha : aggD i.desc = true) (hl : i.size ≤ cs.length) : Step P L ρ g (.load t p) dst ty (val (.im (.agg (cs.take i.size))))
  | storeB {t p x d id off tb cs i dst ty} (h : ρ p = some (.ptr id off)) (hx : ρ x = some d) (hw : whole d = true) (hg : g id = some (.box tb cs)) (hi : L t = some i) (hs : (dcells d).length = i.size) (hl : off + i.size ≤ cs.length) :
      Step P L ρ g (.store t p x) dst ty ⟨none, [(id, some (.box tb (splice cs off (dcells d))))], [], [id]⟩
  | storeR {t p x d m id off e sz cs i dst ty} (h : ρ p = some (.ptr id off)) (hx : ρ x = some d) (hm : toM d = some m) (hw : mwhole m = true) (hg : g id = some (.rw e sz cs)) (hi : L t = some i) (hs : (mcells m).length = i.size) (hl : off + i.size ≤ cs.length) (h0 : 0 < cs.length) :
      Step P L ρ g (.store t p x) dst ty ⟨none, [(id, some (.rw e sz (splice cs off (mcells m))))], [], [id]⟩
  | fieldP {t x k id off i fs f fi dst ty} (h : ρ x = some (.ptr id off)) (hi : L t = some i) (hf : i.desc = .struct fs) (hk : fs[k]? = some f) (hfi : L f.type = some fi) (h0 : fi.size ≠ 0) : Step P L ρ g (.fieldAddr t x k) dst ty (val (.ptr id (off + f.offset)))
  | fieldE {t x k cs i fs f fi dst ty} (h : ρ x = some (.ep cs)) (hi : L t = some i) (hf : i.desc = .struct fs) (hk : fs[k]? = some f) (hfi : L f.type = some fi) (h0 : fi.size ≠ 0) : Step P L ρ g (.fieldAddr t x k) dst ty (val (.ep (cs.drop f.offset)))
  | fieldM {t x k ms i fs f fi m dst ty} (h : ρ x = some (.im (.agg ms))) (hi : L t = some i) (hf : i.desc = .struct fs) (hk : fs[k]? = some f) (hfi : L f.type = some fi) (ha : aggD fi.desc = false) (hm : ms[f.offset]? = some m) : Step P L ρ g (.field t x k) dst ty (val (.im m))
  | fieldMA {t x k ms i fs f fi dst ty} (h : ρ x = some (.im (.agg ms))) (hi : L t = some i) (hf : i.desc = .struct fs) (hk : fs[k]? = some f) (hfi : L f.type = some fi) (ha : aggD fi.desc = true) : Step P L ρ g (.field t x k) dst ty (val (.im (.agg ((ms.drop f.offset).take fi.size))))
  | build {t parts i fs cs dst ty} (hi : L t = some i) (hf : i.desc = .struct fs) (ha : fs.toList.all (fun (f : Field) => (L f.type).isSome) = true) (hc : fillD ρ (place L fs) ((mcells i.mz).map .im) parts.toList = some cs) : Step P L ρ g (.build t parts) dst ty (val (mkAgg cs))
  | buildSlice {t len parts i e ei cs id ty} (hi : L t = some i) (hf : i.desc = .slice e) (hei : L e = some ei) (h0 : 0 < ei.size) (hl : len * ei.size ≤ 16777216)
      (hc : fillM ρ (fun k => some (k * ei.size, ei.size)) (List.replicate len (mcells ei.mz)).flatten parts.toList = some cs) : Step P L ρ g (.buildSlice t len parts) (some id) ty ⟨some (.row id len ei.size), [(id, some (.rw e ei.size cs))], [id], []⟩
  | indexR {t x ix id n sz k j i e ei dst ty} (h : ρ x = some (.row id n sz)) (hx : ρ ix = some (.im (.int k j))) (hi : L t = some i) (hf : i.desc = .slice e) (hei : L e = some ei) (hsz : ei.size = sz) (h0 : 0 ≤ j) (h1 : j < n) : Step P L ρ g (.indexAddr t x ix) dst ty (val (.ptr id (j.toNat * sz)))
  | indexS {t x ix n cs k j i e ei dst ty} (h : ρ x = some (.im (.seq n cs))) (hx : ρ ix = some (.im (.int k j))) (hi : L t = some i) (hf : i.desc = .slice e) (hei : L e = some ei) (h0 : 0 ≤ j) (h1 : j < n) (h2 : j.toNat * ei.size < cs.length) : Step P L ρ g (.indexAddr t x ix) dst ty (val (.ep (cs.drop (j.toNat * ei.size))))
  | indexStr {t x ix s k j i c dst ty} (h : ρ x = some (.im (.str s))) (hx : ρ ix = some (.im (.int k j))) (hi : L t = some i) (hf : i.desc = .string) (h0 : 0 ≤ j) (hc : s[j.toNat]? = some c) : Step P L ρ g (.index t x ix) dst ty (val (.im (.int .u8 c.toNat)))
  | sliceStrLo {t x lo s k l i dst ty} (h : ρ x = some (.im (.str s))) (hlo : ρ lo = some (.im (.int k l))) (hi : L t = some i) (hf : i.desc = .string) (h0 : 0 ≤ l) (h1 : l ≤ s.length) : Step P L ρ g (.slice t x (some lo) none none) dst ty (val (.im (.str (s.drop l.toNat))))
  | sliceStrHi {t x hi' s k h' i dst ty} (h : ρ x = some (.im (.str s))) (hhi : ρ hi' = some (.im (.int k h'))) (hi : L t = some i) (hf : i.desc = .string) (h0 : 0 ≤ h') (h1 : h' ≤ s.length) : Step P L ρ g (.slice t x none (some hi') none) dst ty (val (.im (.str (s.take h'.toNat))))
  | sliceStr {t x lo hi' s k k' l h' i dst ty} (h : ρ x = some (.im (.str s))) (hlo : ρ lo = some (.im (.int k l))) (hhi : ρ hi' = some (.im (.int k' h'))) (hi : L t = some i) (hf : i.desc = .string) (h0 : 0 ≤ l) (h1 : l ≤ h') (h2 : h' ≤ s.length) : Step P L ρ g (.slice t x (some lo) (some hi') none) dst ty (val (.im (.str ((s.drop l.toNat).take (h'.toNat - l.toNat)))))
  | sliceRow {t x hi' id n sz k h' i e dst ty} (h : ρ x = some (.row id n sz)) (hhi : ρ hi' = some (.im (.int k h'))) (hi : L t = some i) (hf : i.desc = .slice e) (hei : (L e).isSome) (h0 : 0 ≤ h') (h1 : h' ≤ n) : Step P L ρ g (.slice t x none (some hi') none) dst ty (val (.row id h'.toNat sz))
  | sliceSeqLo {t x lo n cs k l i e ei dst ty} (h : ρ x = some (.im (.seq n cs))) (hlo : ρ lo = some (.im (.int k l))) (hi : L t = some i) (hf : i.desc = .slice e) (hei : L e = some ei) (h0 : 0 ≤ l) (h1 : l ≤ n) (hcs : cs.length = n * ei.size) : Step P L ρ g (.slice t x (some lo) none none) dst ty (val (.im (.seq (n - l.toNat) (cs.drop (l.toNat * ei.size)))))
  | sliceSeqHi {t x hi' n cs k h' i e ei dst ty} (h : ρ x = some (.im (.seq n cs))) (hhi : ρ hi' = some (.im (.int k h'))) (hi : L t = some i) (hf : i.desc = .slice e) (hei : L e = some ei) (h0 : 0 ≤ h') (h1 : h' ≤ n) : Step P L ρ g (.slice t x none (some hi') none) dst ty (val (.im (.seq h'.toNat (cs.take (h'.toNat * ei.size)))))
  | extractM {x k ms m dst ty} (h : ρ x = some (.im (.tup ms))) (hm : ms[k]? = some m) : Step P L ρ g (.extract x k) dst ty (val (.im m))
  | extractD {x k ds d dst ty} (h : ρ x = some (.tup ds)) (hm : ds[k]? = some d) : Step P L ρ g (.extract x k) dst ty (val d)
  | func {f caps ds dst ty} (h : evL ρ caps.toList = some ds) : Step P L ρ g (.makeFunc (.func f) #[] caps) dst ty (val (.fn f ds))
  | binInt {op t x y t' k a b m dst ty} (h : ρ x = some (.im (.int k a))) (h' : ρ y = some (.im (.int k b))) (hm : intOp op k a b = some m) : Step P L ρ g (.binOp op t x y t') dst ty (val (.im m))
  | binDiv {op t x y t' k a b m dst ty} (h : ρ x = some (.im (.int k a))) (h' : ρ y = some (.im (.int k b))) (hm : divOp op k a b = some m) (h0 : b ≠ 0) : Step P L ρ g (.binOp op t x y t') dst ty (val (.im m))
  | binStr {op t x y t' a b m dst ty} (h : ρ x = some (.im (.str a))) (h' : ρ y = some (.im (.str b))) (hm : strOp op a b = some m) : Step P L ρ g (.binOp op t x y t') dst ty (val (.im m))
  | addStr {t x y t' a b dst ty} (h : ρ x = some (.im (.str a))) (h' : ρ y = some (.im (.str b))) (hl : a.length + b.length ≤ 9223372036854775807) : Step P L ρ g (.binOp .add t x y t') dst ty (val (.im (.str (a ++ b))))
  | binBool {op t x y t' i a b m dst ty} (h : ρ x = some (.im (.bool a))) (h' : ρ y = some (.im (.bool b))) (hi : L t = some i) (hf : i.desc = .bool) (hm : boolOp op a b = some m) : Step P L ρ g (.binOp op t x y t') dst ty (val (.im m))
  | not {t x b dst ty} (h : ρ x = some (.im (.bool b))) : Step P L ρ g (.unOp .not t x) dst ty (val (.im (.bool (!b))))
  | neg {t x k n dst ty} (h : ρ x = some (.im (.int k n))) : Step P L ρ g (.unOp .neg t x) dst ty (val (.im (.int k (k.wrap (0 - n)))))
  | convInt {s t x k0 n is i k dst ty} (h : ρ x = some (.im (.int k0 n))) (hs : L s = some is) (hi : L t = some i) (hf : i.desc = .int k) : Step P L ρ g (.convert s t x) dst ty (val (.im (.int k (k.wrap n))))
  | lenStr {x s t i dst ty} (h : ρ x = some (.im (.str s))) (hi : L t = some i) (hf : i.desc = .string) : Step P L ρ g (.call { callee := .builtin .len, args := #[x], argTypes := #[t] }) dst ty (val (.im (.int .i64 s.length)))
  | lenSeq {x n cs t i e dst ty} (h : ρ x = some (.im (.seq n cs))) (hi : L t = some i) (hf : i.desc = .slice e) : Step P L ρ g (.call { callee := .builtin .len, args := #[x], argTypes := #[t] }) dst ty (val (.im (.int .i64 n)))
  | lenNil {x t i e dst ty} (h : ρ x = some (.im .nil)) (hi : L t = some i) (hf : i.desc = .slice e) : Step P L ρ g (.call { callee := .builtin .len, args := #[x], argTypes := #[t] }) dst ty (val (.im (.int .i64 0)))
  | lenRow {x id n sz t i e dst ty} (h : ρ x = some (.row id n sz)) (hi : L t = some i) (hf : i.desc = .slice e) : Step P L ρ g (.call { callee := .builtin .len, args := #[x], argTypes := #[t] }) dst ty (val (.im (.int .i64 n)))
  | append {x y t i e ei id0 n m c cs news js d id ty} (h : ρ x = some (.row id0 n ei.size)) (hy : ρ y = some d) (hd : News g d m news js) (hg : g id0 = some (.rw c ei.size cs)) (hc : c = e) (hi : L t = some i) (hf : i.desc = .slice e) (hei : L e = some ei) (h0 : 0 < ei.size)
      (hn : n * ei.size ≤ cs.length) (hm : news.length = m * ei.size) (hb : (n + m) * ei.bytes ≤ 140737488355328) (hmx : n + m ≤ 9223372036854775807) (hrs : ∀ id n sz, d = .row id n sz → sz = ei.size) :
      Step P L ρ g (.call { callee := .builtin .append, args := #[x, y], argTypes := #[t, t] }) (some id) ty ⟨some (.row id (n + m) ei.size), [(id, some (.rw e ei.size (cs.take (n * ei.size) ++ news))), (id0, none)], [id], id0 :: js⟩
  | appendNil {x y t i e ei m news js d id ty} (h : ρ x = some (.im .nil)) (hy : ρ y = some d) (hd : News g d m news js) (hi : L t = some i) (hf : i.desc = .slice e) (hei : L e = some ei) (h0 : 0 < ei.size)
      (hm : news.length = m * ei.size) (hb : m * ei.bytes ≤ 140737488355328) (hmx : m ≤ 9223372036854775807) (hrs : ∀ id n sz, d = .row id n sz → sz = ei.size) :
      Step P L ρ g (.call { callee := .builtin .append, args := #[x, y], argTypes := #[t, t] }) (some id) ty ⟨some (.row id m ei.size), [(id, some (.rw e ei.size news))], [id], js⟩
  | call {x args ats f ms ids m dst ty} (h : ρ x = some (.im (.fn f))) (hp : Plain P f) (ha : evM ρ g args.toList = some (ms, ids)) (hr : Ret P f ms m) : Step P L ρ g (.call { callee := .value x, args := args, argTypes := ats }) dst ty ⟨some (.im m), ids.map fun i => (i, none), [], ids⟩
  | nilCheckP {x id off dst ty} (h : ρ x = some (.ptr id off)) : Step P L ρ g (.nilCheck x) dst ty (val (.ptr id off))
  | nilCheckE {x cs dst ty} (h : ρ x = some (.ep cs)) : Step P L ρ g (.nilCheck x) dst ty (val (.ep cs))

section
variable {P : Program} {L : Nat → Option TI} {ρ ρ' : Operand → Option D} {g g' : Nat → Option O}

theorem evL_congr : ∀ {xs : List Operand}, (∀ x ∈ xs, ρ' x = ρ x) → evL ρ' xs = evL ρ xs
  | [], _ => rfl
  | x :: xs, h => by simp only [evL]; rw [h x (by simp), evL_congr (fun y hy => h y (by simp [hy]))]
mutual
theorem rdM_congr : ∀ (d : D) {m : M} {l : List Nat}, rdM g d = some (m, l) → (∀ i ∈ l, g' i = g i) → rdM g' d = some (m, l)
  | .im m', m, l, h, hg => by simpa only [rdM] using h
  | .agg ds, m, l, h, hg => by
    simp only [rdM] at h ⊢
    cases h1 : rdL g ds with
    | none => rw [h1] at h; simp at h
    | some p =>
      obtain ⟨ms, l'⟩ := p
      rw [h1] at h
      simp only [Option.some.injEq, Prod.mk.injEq] at h
      obtain ⟨rfl, rfl⟩ := h
      rw [rdL_congr ds h1 hg]
  | .tup ds, m, l, h, hg => by
    simp only [rdM] at h ⊢
    cases h1 : rdL g ds with
    | none => rw [h1] at h; simp at h
    | some p =>
      obtain ⟨ms, l'⟩ := p
      rw [h1] at h
      simp only [Option.some.injEq, Prod.mk.injEq] at h
      obtain ⟨rfl, rfl⟩ := h
      rw [rdL_congr ds h1 hg]
  | .row id n sz, m, l, h, hg => by
    simp only [rdM] at h ⊢
    cases h1 : g id with
    | none => rw [h1] at h; simp at h
    | some o =>
      rw [h1] at h
      cases o with
      | rw e sz' cs =>
        simp only [] at h
        cases hb : (Nat.beq sz sz' && Nat.ble (n * sz) cs.length) with
        | false => rw [hb] at h; simp at h
        | true =>
          rw [hb] at h
          simp only [cond_true, Option.some.injEq, Prod.mk.injEq] at h
          obtain ⟨rfl, rfl⟩ := h
          rw [hg id (by simp), h1]
          simp only [hb, cond_true]
      | _ => simp at h
  | .ptr _ _, m, l, h, hg => by simp [rdM] at h
  | .ep _, m, l, h, hg => by simp [rdM] at h
  | .fn _ _, m, l, h, hg => by simp [rdM] at h
  | .iface _ _, m, l, h, hg => by simp [rdM] at h
theorem rdL_congr : ∀ (ds : List D) {ms : List M} {l : List Nat}, rdL g ds = some (ms, l) → (∀ i ∈ l, g' i = g i) → rdL g' ds = some (ms, l)
  | [], ms, l, h, hg => by simpa only [rdL] using h
  | d :: ds, ms, l, h, hg => by
    simp only [rdL] at h ⊢
    cases h1 : rdM g d with
    | none => rw [h1] at h; simp at h
    | some p =>
      cases h2 : rdL g ds with
      | none => rw [h1, h2] at h; simp at h
      | some q =>
        obtain ⟨m, l1⟩ := p
        obtain ⟨ms', l2⟩ := q
        rw [h1, h2] at h
        simp only [Option.some.injEq, Prod.mk.injEq] at h
        obtain ⟨rfl, rfl⟩ := h
        rw [rdM_congr d h1 (fun i hi => hg i (by simp [hi])), rdL_congr ds h2 (fun i hi => hg i (by simp [hi]))]
end
theorem evM_congr : ∀ {xs : List Operand} {ms : List M} {l : List Nat}, evM ρ g xs = some (ms, l) → (∀ x ∈ xs, ρ' x = ρ x) → (∀ i ∈ l, g' i = g i) → evM ρ' g' xs = some (ms, l)
  | [], ms, l, h, _, _ => h
  | x :: xs, ms, l, h, hx, hg => by
    simp only [evM] at h ⊢
    rw [hx x (by simp)]
    cases h0 : ρ x with
    | none => rw [h0] at h; simp at h
    | some d =>
      rw [h0] at h
      simp only [] at h ⊢
      cases h1 : rdM g d with
      | none => rw [h1] at h; simp at h
      | some p =>
        cases h2 : evM ρ g xs with
        | none => rw [h1, h2] at h; simp at h
        | some q =>
          obtain ⟨m, l1⟩ := p
          obtain ⟨ms', l2⟩ := q
          rw [h1, h2] at h
          simp only [Option.some.injEq, Prod.mk.injEq] at h
          obtain ⟨rfl, rfl⟩ := h
          rw [rdM_congr d h1 (fun i hi => hg i (by simp [hi])), evM_congr h2 (fun y hy => hx y (by simp [hy])) (fun i hi => hg i (by simp [hi]))]
theorem fillD_congr {pl : Nat → Option (Nat × Nat)} : ∀ {ps : List (Nat × Operand)} {cs : List D}, (∀ x ∈ ps, ρ' x.2 = ρ x.2) → fillD ρ' pl cs ps = fillD ρ pl cs ps
  | [], cs, _ => rfl
  | (i, x) :: ps, cs, h => by
    simp only [fillD]
    rw [h (i, x) (by simp)]
    cases pl i <;> cases ρ x <;> try rfl
    rename_i p d
    obtain ⟨o, z⟩ := p
    simp only []
    rw [fillD_congr (fun y hy => h y (by simp [hy]))]
theorem fillM_congr {pl : Nat → Option (Nat × Nat)} : ∀ {ps : List (Nat × Operand)} {cs : List M}, (∀ x ∈ ps, ρ' x.2 = ρ x.2) → fillM ρ' pl cs ps = fillM ρ pl cs ps
  | [], cs, _ => rfl
  | (i, x) :: ps, cs, h => by
    simp only [fillM]
    rw [h (i, x) (by simp)]
    cases pl i <;> cases (ρ x).bind toM <;> try rfl
    rename_i p d
    obtain ⟨o, z⟩ := p
    simp only []
    rw [fillM_congr (fun y hy => h y (by simp [hy]))]
theorem News.congr {d : D} {n : Nat} {ms : List M} {js : List Nat} (h : News g d n ms js) (hg : ∀ j ∈ js, g' j = g j) : News g' d n ms js := by
  cases h with
  | nil => exact .nil
  | seq => exact .seq
  | row h hl => exact .row (by rw [hg _ (by simp)]; exact h) hl

/-- an operation hangs on its operands, and on the objects that it looks at, alone -/
theorem Step.congr {op : Op} {dst : Option Nat} {ty : TypeId} {e : Eff} (h : Step P L ρ g op dst ty e) (hρ : ∀ x ∈ op.operands, ρ' x = ρ x) (hg : ∀ i ∈ e.tch, g' i = g i) : Step P L ρ' g' op dst ty e := by
  have q : ∀ x d, x ∈ op.operands → ρ x = some d → ρ' x = some d := fun x d hx h => by rw [hρ x hx]; exact h
  have r : ∀ i o, i ∈ e.tch → g i = some o → g' i = some o := fun i o hi h => by rw [hg i hi]; exact h
  cases h with
  | move h => exact .move (q _ _ (by simp [Op.operands]) h)
  | assign h => exact .assign (q _ _ (by simp [Op.operands]) h)
  | @pick c x y b d dst ty h h' => exact .pick (q _ _ (by simp [Op.operands]) h) (q _ _ (by cases b <;> simp [Op.operands]) h')
  | alloc h => exact .alloc h
  | box h hw => exact .box (q _ _ (by simp [Op.operands]) h) hw
  | loadB h hb hi ha hd => exact .loadB (q _ _ (by simp [Op.operands]) h) (r _ _ (by simp) hb) hi ha hd
  | loadBA h hb hi ha hd => exact .loadBA (q _ _ (by simp [Op.operands]) h) (r _ _ (by simp) hb) hi ha hd
  | loadR h hb hi ha hd => exact .loadR (q _ _ (by simp [Op.operands]) h) (r _ _ (by simp) hb) hi ha hd
  | loadRA h hb hi ha hd h0 => exact .loadRA (q _ _ (by simp [Op.operands]) h) (r _ _ (by simp) hb) hi ha hd h0
  | loadE h hi ha hd => exact .loadE (q _ _ (by simp [Op.operands]) h) hi ha hd
  | loadEA h hi ha hd => exact .loadEA (q _ _ (by simp [Op.operands]) h) hi ha hd
  | storeB h hx hw hb hi hs hl => exact .storeB (q _ _ (by simp [Op.operands]) h) (q _ _ (by simp [Op.operands]) hx) hw (r _ _ (by simp) hb) hi hs hl
  | storeR h hx hm hw hb hi hs hl h0 => exact .storeR (q _ _ (by simp [Op.operands]) h) (q _ _ (by simp [Op.operands]) hx) hm hw (r _ _ (by simp) hb) hi hs hl h0
  | fieldP h hi hf hk hfi h0 => exact .fieldP (q _ _ (by simp [Op.operands]) h) hi hf hk hfi h0
  | fieldE h hi hf hk hfi h0 => exact .fieldE (q _ _ (by simp [Op.operands]) h) hi hf hk hfi h0
  | fieldM h hi hf hk hfi h0 h1 => exact .fieldM (q _ _ (by simp [Op.operands]) h) hi hf hk hfi h0 h1
  | fieldMA h hi hf hk hfi h0 => exact .fieldMA (q _ _ (by simp [Op.operands]) h) hi hf hk hfi h0
  | build hi hf ha hc => exact .build hi hf ha (by rw [fillD_congr (fun x hx => hρ _ (by simp only [Op.operands, List.mem_toArray, List.mem_map]; exact ⟨x, hx, rfl⟩))]; exact hc)
  | buildSlice hi hf hei h0 hl hc => exact .buildSlice hi hf hei h0 hl (by rw [fillM_congr (fun x hx => hρ _ (by simp only [Op.operands, List.mem_toArray, List.mem_map]; exact ⟨x, hx, rfl⟩))]; exact hc)
  | indexR h hx hi hf hei hsz h0 h1 => exact .indexR (q _ _ (by simp [Op.operands]) h) (q _ _ (by simp [Op.operands]) hx) hi hf hei hsz h0 h1
  | indexS h hx hi hf hei h0 h1 h2 => exact .indexS (q _ _ (by simp [Op.operands]) h) (q _ _ (by simp [Op.operands]) hx) hi hf hei h0 h1 h2
  | indexStr h hx hi hf h0 hc => exact .indexStr (q _ _ (by simp [Op.operands]) h) (q _ _ (by simp [Op.operands]) hx) hi hf h0 hc
  | sliceStrLo h hlo hi hf h0 h1 => exact .sliceStrLo (q _ _ (by simp [Op.operands]) h) (q _ _ (by simp [Op.operands]) hlo) hi hf h0 h1
  | sliceStrHi h hlo hi hf h0 h1 => exact .sliceStrHi (q _ _ (by simp [Op.operands]) h) (q _ _ (by simp [Op.operands]) hlo) hi hf h0 h1
  | sliceStr h hlo hhi hi hf h0 h1 h2 => exact .sliceStr (q _ _ (by simp [Op.operands]) h) (q _ _ (by simp [Op.operands]) hlo) (q _ _ (by simp [Op.operands]) hhi) hi hf h0 h1 h2
  | sliceRow h hhi hi hf hei h0 h1 => exact .sliceRow (q _ _ (by simp [Op.operands]) h) (q _ _ (by simp [Op.operands]) hhi) hi hf hei h0 h1
  | sliceSeqLo h hlo hi hf hei h0 h1 hcs => exact .sliceSeqLo (q _ _ (by simp [Op.operands]) h) (q _ _ (by simp [Op.operands]) hlo) hi hf hei h0 h1 hcs
  | sliceSeqHi h hlo hi hf hei h0 h1 => exact .sliceSeqHi (q _ _ (by simp [Op.operands]) h) (q _ _ (by simp [Op.operands]) hlo) hi hf hei h0 h1
  | extractM h hm => exact .extractM (q _ _ (by simp [Op.operands]) h) hm
  | extractD h hm => exact .extractD (q _ _ (by simp [Op.operands]) h) hm
  | func h => exact .func (by rw [evL_congr (fun x hx => hρ _ (by simp [Op.operands]; simpa using hx))]; exact h)
  | binInt h h' hm => exact .binInt (q _ _ (by simp [Op.operands]) h) (q _ _ (by simp [Op.operands]) h') hm
  | binDiv h h' hm h0 => exact .binDiv (q _ _ (by simp [Op.operands]) h) (q _ _ (by simp [Op.operands]) h') hm h0
  | binStr h h' hm => exact .binStr (q _ _ (by simp [Op.operands]) h) (q _ _ (by simp [Op.operands]) h') hm
  | addStr h h' hl => exact .addStr (q _ _ (by simp [Op.operands]) h) (q _ _ (by simp [Op.operands]) h') hl
  | binBool h h' hi hf hm => exact .binBool (q _ _ (by simp [Op.operands]) h) (q _ _ (by simp [Op.operands]) h') hi hf hm
  | not h => exact .not (q _ _ (by simp [Op.operands]) h)
  | neg h => exact .neg (q _ _ (by simp [Op.operands]) h)
  | convInt h hs hi hf => exact .convInt (q _ _ (by simp [Op.operands]) h) hs hi hf
  | lenStr h hi hf => exact .lenStr (q _ _ (by simp [Op.operands, Call.operands]) h) hi hf
  | lenSeq h hi hf => exact .lenSeq (q _ _ (by simp [Op.operands, Call.operands]) h) hi hf
  | lenNil h hi hf => exact .lenNil (q _ _ (by simp [Op.operands, Call.operands]) h) hi hf
  | lenRow h hi hf => exact .lenRow (q _ _ (by simp [Op.operands, Call.operands]) h) hi hf
  | append h hy hd hg' hc hi hf hei h0 hn hm hb hmx hrs => exact .append (q _ _ (by simp [Op.operands, Call.operands]) h) (q _ _ (by simp [Op.operands, Call.operands]) hy) (hd.congr fun j hj => hg j (by simp [hj])) (r _ _ (by simp) hg') hc hi hf hei h0 hn hm hb hmx hrs
  | appendNil h hy hd hi hf hei h0 hm hb hmx hrs => exact .appendNil (q _ _ (by simp [Op.operands, Call.operands]) h) (q _ _ (by simp [Op.operands, Call.operands]) hy) (hd.congr fun j hj => hg j hj) hi hf hei h0 hm hb hmx hrs
  | call h hp ha hr => exact .call (q _ _ (by simp [Op.operands, Call.operands]) h) hp (evM_congr ha (fun x hx => hρ _ (by simp [Op.operands, Call.operands]; exact .inr (by simpa using hx))) (fun i hi => hg i hi)) hr
  | nilCheckP h => exact .nilCheckP (q _ _ (by simp [Op.operands]) h)
  | nilCheckE h => exact .nilCheckE (q _ _ (by simp [Op.operands]) h)

end
end Fw

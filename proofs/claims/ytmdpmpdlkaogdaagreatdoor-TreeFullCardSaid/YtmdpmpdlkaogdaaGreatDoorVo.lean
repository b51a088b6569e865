/- The calculus' lemmas, one an operation: values, numbers, strings, cells, blocks. Nothing here speaks of the program. -/
import Derived.Test.YtmdpmpdlkaogdaaGreatDoorVc
import Derived.Lib.Strings
namespace Go.Proofs.YtmdpmpdlkaogdaaGreatDoor.Vc
open Go Go.RowKit

/-- A string out of its bytes. -/
def S (l : List UInt8) : ByteArray := ⟨l.toArray⟩
@[simp] theorem S_size (l : List UInt8) : (S l).size = l.length := by simp [S, ByteArray.size]
theorem toList_mk (s : ByteArray) : s.toList = s.data.toList := ByteArray.toList_eq s
@[simp] theorem S_toList (l : List UInt8) : (S l).toList = l := by rw [toList_mk]; rfl
theorem S_of (s : ByteArray) : S s.data.toList = s := by cases s; simp [S]
theorem S_inj {a b : List UInt8} (h : S a = S b) : a = b := by have := congrArg (·.data.toList) h; simpa [S] using this
theorem S_extract (l : List UInt8) (a b : Nat) : (S l).extract a b = S ((l.drop a).take (b - a)) := by
  apply ByteArray.ext
  apply Array.ext'
  rw [Go.Lib.extract_data]
  simp [S]
theorem S_append (a b : List UInt8) : S a ++ S b = S (a ++ b) := by
  apply ByteArray.ext; apply Array.ext'; simp [S, ByteArray.data_append]

theorem S_get {a : List UInt8} {i : Nat} {b : UInt8} (h : a[i]? = some b) : (S a)[i]? = some b := by
  obtain ⟨h1, h2⟩ := List.getElem?_eq_some_iff.1 h
  have h3 : i < (S a).size := by simpa using h1
  rw [getElem?_pos (S a) i h3]
  rw [← h2]
  simp [S, ByteArray.getElem_eq_getElem_data]

-- what the program says of its types
def szB (P : Program) (t : TypeId) : Option Nat := (P.info? t).map (·.size)
def zeroB (P : Program) (t : TypeId) : Option Value := (P.info? t).bind (·.zero)
def bytesB (P : Program) (t : TypeId) : Option Nat := (P.info? t).map (·.bytes)
def aggB (P : Program) (t : TypeId) : Option Bool := (P.underlying t).map fun | .struct _ | .array _ _ => true | _ => false
def fldB (P : Program) (s f : Nat) : Option Nat := match P.underlying s with
  | some (.struct fs) => (fs[f]?).bind fun fd => (P.info? fd.type).bind fun i => if i.size = 0 then none else some fd.offset
  | _ => none

theorem w64 {a : Int} (h0 : -9223372036854775808 ≤ a) (h1 : a ≤ 9223372036854775807) : IntKind.i64.wrap a = a := by
  simp [IntKind.wrap, IntKind.bits, IntKind.signed]; omega
theorem wu8 {a : Int} (h0 : 0 ≤ a) (h1 : a < 256) : IntKind.u8.wrap a = a := by
  simp [IntKind.wrap, IntKind.bits, IntKind.signed]; omega
theorem wu64 {a : Int} (h0 : 0 ≤ a) (h1 : a < 18446744073709551616) : IntKind.u64.wrap a = a := by
  simp [IntKind.wrap, IntKind.bits, IntKind.signed]; omega

section ops
variable {st : Sty} [Wy st] {P : Program} {ds : List Deferred} {n : Nat} {Q : Exit → Act → World → Prop} {E : Env} {w : World} {ops : Array Oper} {l : List Oper}
variable {d : Nat} {ty : TypeId} {pos : String} {af : Array Edge}

theorem mv {x : Operand} {v : Value} (hx : opd E x = some v) (hd : Nat.blt d n = true) (k : LY st P ds n ops l Q ((d, v) :: E) w) : LY st P ds n ops (⟨some d, .move x, ty, pos, af, none⟩ :: l) Q E w :=
  LY.rd v hd (fun a ha w _ => by simp [execOp, opd_eval ha hx]) k
theorem asg {x : Operand} {v : Value} (hx : opd E x = some v) (hd : Nat.blt d n = true) (k : LY st P ds n ops l Q ((d, v) :: E) w) : LY st P ds n ops (⟨some d, .assign x, ty, pos, af, none⟩ :: l) Q E w :=
  LY.rd v hd (fun a ha w _ => by simp [execOp, opd_eval ha hx]) k
theorem pickT {c x y : Operand} {v : Value} (hc : opd E c = some (.bool true)) (hx : opd E x = some v) (hd : Nat.blt d n = true) (k : LY st P ds n ops l Q ((d, v) :: E) w) : LY st P ds n ops (⟨some d, .pick c x y, ty, pos, af, none⟩ :: l) Q E w :=
  LY.rd v hd (fun a ha w _ => by simp [execOp, opd_eval ha hc, opd_eval ha hx, asBool]) k
theorem pickF {c x y : Operand} {v : Value} (hc : opd E c = some (.bool false)) (hx : opd E y = some v) (hd : Nat.blt d n = true) (k : LY st P ds n ops l Q ((d, v) :: E) w) : LY st P ds n ops (⟨some d, .pick c x y, ty, pos, af, none⟩ :: l) Q E w :=
  LY.rd v hd (fun a ha w _ => by simp [execOp, opd_eval ha hc, opd_eval ha hx, asBool]) k
theorem ext {x : Operand} {i : Nat} {vs : Array Value} {v : Value} (hx : opd E x = some (.tuple vs)) (hv : vs[i]? = some v) (hd : Nat.blt d n = true) (k : LY st P ds n ops l Q ((d, v) :: E) w) : LY st P ds n ops (⟨some d, .extract x i, ty, pos, af, none⟩ :: l) Q E w :=
  LY.rd v hd (fun a ha w _ => by simp [execOp, opd_eval ha hx, Instr.extract, hv]) k
theorem nilc {x : Operand} {ad : Addr} (hx : opd E x = some (.pointer (some ad))) (hd : Nat.blt d n = true) (k : LY st P ds n ops l Q ((d, .pointer (some ad)) :: E) w) : LY st P ds n ops (⟨some d, .nilCheck x, ty, pos, af, none⟩ :: l) Q E w :=
  LY.rd _ hd (fun a ha w _ => by simp [execOp, opd_eval ha hx]) k

-- bools and numbers
omit [Wy st] in
theorem bt {b : Bool} (h : b = true) (k : LY st P ds n ops l Q ((d, .bool true) :: E) w) : LY st P ds n ops l Q ((d, .bool b) :: E) w := by subst h; exact k
omit [Wy st] in
theorem bf {b : Bool} (h : b = false) (k : LY st P ds n ops l Q ((d, .bool false) :: E) w) : LY st P ds n ops l Q ((d, .bool b) :: E) w := by subst h; exact k
theorem notB {x : Operand} {t : TypeId} {b : Bool} (hx : opd E x = some (.bool b)) (hd : Nat.blt d n = true) (k : LY st P ds n ops l Q ((d, .bool (!b)) :: E) w) : LY st P ds n ops (⟨some d, .unOp .not t x, ty, pos, af, none⟩ :: l) Q E w :=
  LY.rd _ hd (fun a ha w _ => by simp [execOp, opd_eval ha hx, Op.unary]) k

theorem run_eqGuard_int (op : BinOp) (t : TypeId) (x y : Operand) (κ : IntKind) (a b : Int) : (eqGuard op t x y (.int κ a) (.int κ b)).run P w = .ok () w := by
  unfold eqGuard; cases op <;> simp
theorem run_eqGuard_str (op : BinOp) (t : TypeId) (x y : Operand) (a b : ByteArray) : (eqGuard op t x y (.string a) (.string b)).run P w = .ok () w := by
  unfold eqGuard; cases op <;> simp
theorem run_eqGuard_bool (op : BinOp) (t : TypeId) (x y : Operand) (a b : Bool) : (eqGuard op t x y (.bool a) (.bool b)).run P w = .ok () w := by
  unfold eqGuard; cases op <;> simp
theorem run_eqGuard_ptr (op : BinOp) (t : TypeId) (x y : Operand) (a b : Option Addr) : (eqGuard op t x y (.pointer a) (.pointer b)).run P w = .ok () w := by
  unfold eqGuard; cases op <;> simp
theorem run_eqGuard_slice (op : BinOp) (t : TypeId) (x y : Operand) (a b : Option Addr) (i j k m : Nat) : (eqGuard op t x y (.slice a i j) (.slice b k m)).run P w = .ok () w := by
  unfold eqGuard; cases op <;> simp

theorem binI {op : BinOp} {x y : Operand} {t yt : TypeId} {κ : IntKind} {a b : Int} {v : Value} (hx : opd E x = some (.int κ a)) (hy : opd E y = some (.int κ b))
    (hr : ∀ w, (binOp op t (.int κ a) (.int κ b)).run P w = .ok v w) (hd : Nat.blt d n = true) (k : LY st P ds n ops l Q ((d, v) :: E) w) : LY st P ds n ops (⟨some d, .binOp op t x y yt, ty, pos, af, none⟩ :: l) Q E w :=
  LY.rd v hd (fun a ha w _ => by simp [execOp, opd_eval ha hx, opd_eval ha hy, run_eqGuard_int, hr]) k
section num
variable {x y : Operand} {t yt : TypeId} {κ : IntKind} {a b : Int} (hx : opd E x = some (.int κ a)) (hy : opd E y = some (.int κ b)) (hd : Nat.blt d n = true)
include hx hy hd
theorem lssI (k : LY st P ds n ops l Q ((d, .bool (decide (a < b))) :: E) w) : LY st P ds n ops (⟨some d, .binOp .lss t x y yt, ty, pos, af, none⟩ :: l) Q E w := binI hx hy (fun w => by simp [binOp, Op.intCmp]) hd k
theorem leqI (k : LY st P ds n ops l Q ((d, .bool (decide (a ≤ b))) :: E) w) : LY st P ds n ops (⟨some d, .binOp .leq t x y yt, ty, pos, af, none⟩ :: l) Q E w := binI hx hy (fun w => by simp [binOp, Op.intCmp]) hd k
theorem gtrI (k : LY st P ds n ops l Q ((d, .bool (decide (b < a))) :: E) w) : LY st P ds n ops (⟨some d, .binOp .gtr t x y yt, ty, pos, af, none⟩ :: l) Q E w := binI hx hy (fun w => by simp [binOp, Op.intCmp]) hd k
theorem geqI (k : LY st P ds n ops l Q ((d, .bool (decide (b ≤ a))) :: E) w) : LY st P ds n ops (⟨some d, .binOp .geq t x y yt, ty, pos, af, none⟩ :: l) Q E w := binI hx hy (fun w => by simp [binOp, Op.intCmp]) hd k
theorem eqlI (k : LY st P ds n ops l Q ((d, .bool (decide (a = b))) :: E) w) : LY st P ds n ops (⟨some d, .binOp .eql t x y yt, ty, pos, af, none⟩ :: l) Q E w := binI hx hy (fun w => by simp [binOp, Op.intCmp]; rfl) hd k
theorem neqI (k : LY st P ds n ops l Q ((d, .bool (!decide (a = b))) :: E) w) : LY st P ds n ops (⟨some d, .binOp .neq t x y yt, ty, pos, af, none⟩ :: l) Q E w := binI hx hy (fun w => by simp [binOp, Op.intCmp]; rfl) hd k
theorem addI {c : Int} (hc : κ.wrap (a + b) = c) (k : LY st P ds n ops l Q ((d, .int κ c) :: E) w) : LY st P ds n ops (⟨some d, .binOp .add t x y yt, ty, pos, af, none⟩ :: l) Q E w := binI hx hy (fun w => by simp [binOp, Op.intArith, hc]) hd k
theorem subI {c : Int} (hc : κ.wrap (a - b) = c) (k : LY st P ds n ops l Q ((d, .int κ c) :: E) w) : LY st P ds n ops (⟨some d, .binOp .sub t x y yt, ty, pos, af, none⟩ :: l) Q E w := binI hx hy (fun w => by simp [binOp, Op.intArith, hc]) hd k
theorem mulI {c : Int} (hc : κ.wrap (a * b) = c) (k : LY st P ds n ops l Q ((d, .int κ c) :: E) w) : LY st P ds n ops (⟨some d, .binOp .mul t x y yt, ty, pos, af, none⟩ :: l) Q E w := binI hx hy (fun w => by simp [binOp, Op.intArith, hc]) hd k
theorem remI {c : Int} (hb : b ≠ 0) (hc : a.tmod b = c) (k : LY st P ds n ops l Q ((d, .int κ c) :: E) w) : LY st P ds n ops (⟨some d, .binOp .rem t x y yt, ty, pos, af, none⟩ :: l) Q E w := binI hx hy (fun w => by simp [binOp, Op.intDiv, hb, hc]) hd k
theorem quoI {c : Int} (hb : b ≠ 0) (hc : κ.wrap (a.tdiv b) = c) (k : LY st P ds n ops l Q ((d, .int κ c) :: E) w) : LY st P ds n ops (⟨some d, .binOp .quo t x y yt, ty, pos, af, none⟩ :: l) Q E w := binI hx hy (fun w => by simp [binOp, Op.intDiv, hb, hc]) hd k
theorem maxI {tys : Array TypeId} (k : LY st P ds n ops l Q ((d, .int κ (max a b)) :: E) w) : LY st P ds n ops (⟨some d, .call ⟨.builtin .max, #[x, y], tys⟩, ty, pos, af, none⟩ :: l) Q E w :=
  LY.rd _ hd (fun ac ha w _ => by
    have : (if b > a then b else a) = max a b := by rw [Int.max_def]; split <;> split <;> omega
    simp [execOp, resolve, opd_eval ha hx, opd_eval ha hy, invoke, builtin, Builtin.max_, Builtin.max2, this]) k
theorem minI {tys : Array TypeId} (k : LY st P ds n ops l Q ((d, .int κ (min a b)) :: E) w) : LY st P ds n ops (⟨some d, .call ⟨.builtin .min, #[x, y], tys⟩, ty, pos, af, none⟩ :: l) Q E w :=
  LY.rd _ hd (fun ac ha w _ => by
    have : (if b < a then b else a) = min a b := by rw [Int.min_def]; split <;> split <;> omega
    simp [execOp, resolve, opd_eval ha hx, opd_eval ha hy, invoke, builtin, Builtin.min_, Builtin.min2, this]) k
end num
theorem shlI {x y : Operand} {t yt : TypeId} {κ κ' : IntKind} {a b c : Int} (hx : opd E x = some (.int κ a)) (hy : opd E y = some (.int κ' b)) (hd : Nat.blt d n = true) (hb : 0 ≤ b) (hc : κ.wrap (a * 2 ^ (min b.toNat κ.bits)) = c)
    (k : LY st P ds n ops l Q ((d, .int κ c) :: E) w) : LY st P ds n ops (⟨some d, .binOp .shl t x y yt, ty, pos, af, none⟩ :: l) Q E w :=
  LY.rd _ hd (fun ac ha w _ => by simp [execOp, opd_eval ha hx, opd_eval ha hy, eqGuard, binOp, Op.shift, Int.not_lt.2 hb, hc]) k
theorem shrI {x y : Operand} {t yt : TypeId} {κ κ' : IntKind} {a b c : Int} (hx : opd E x = some (.int κ a)) (hy : opd E y = some (.int κ' b)) (hd : Nat.blt d n = true) (hb : 0 ≤ b) (hc : a.fdiv (2 ^ (min b.toNat κ.bits)) = c)
    (k : LY st P ds n ops l Q ((d, .int κ c) :: E) w) : LY st P ds n ops (⟨some d, .binOp .shr t x y yt, ty, pos, af, none⟩ :: l) Q E w :=
  LY.rd _ hd (fun ac ha w _ => by simp [execOp, opd_eval ha hx, opd_eval ha hy, eqGuard, binOp, Op.shift, Int.not_lt.2 hb, hc]) k
theorem cvtI {x : Operand} {t u : TypeId} {κ κ' : IntKind} {a c : Int} {td : TypeDesc} (hx : opd E x = some (.int κ a)) (hu : P.underlying u = some (.int κ')) (ht : P.underlying t = some td) (hd : Nat.blt d n = true) (hc : κ'.wrap a = c)
    (k : LY st P ds n ops l Q ((d, .int κ' c) :: E) w) : LY st P ds n ops (⟨some d, .convert t u x, ty, pos, af, none⟩ :: l) Q E w :=
  LY.rd _ hd (fun ac ha w _ => by simp [execOp, opd_eval ha hx, convert, underlying, program, Sem.run, hu, ht, Conv.intToInt, hc]) k

-- strings
section str
variable {x y : Operand} {t yt : TypeId} {a b : List UInt8}
theorem binS {op : BinOp} {v : Value} (hx : opd E x = some (.string (S a))) (hy : opd E y = some (.string (S b))) (hr : ∀ w, (Op.stringOp op (S a) (S b)).run P w = .ok v w) (hop : op ≠ .shl ∧ op ≠ .shr) (hd : Nat.blt d n = true)
    (k : LY st P ds n ops l Q ((d, v) :: E) w) : LY st P ds n ops (⟨some d, .binOp op t x y yt, ty, pos, af, none⟩ :: l) Q E w :=
  LY.rd v hd (fun ac ha w _ => by cases op <;> simp_all [execOp, opd_eval ha hx, opd_eval ha hy, run_eqGuard_str, binOp]) k
variable (hx : opd E x = some (.string (S a))) (hy : opd E y = some (.string (S b))) (hd : Nat.blt d n = true)
include hx hy hd
theorem eqlS (k : LY st P ds n ops l Q ((d, .bool (a == b)) :: E) w) : LY st P ds n ops (⟨some d, .binOp .eql t x y yt, ty, pos, af, none⟩ :: l) Q E w := binS hx hy (fun w => by simp [Op.stringOp]) (by simp) hd k
theorem neqS (k : LY st P ds n ops l Q ((d, .bool (!(a == b))) :: E) w) : LY st P ds n ops (⟨some d, .binOp .neq t x y yt, ty, pos, af, none⟩ :: l) Q E w := binS hx hy (fun w => by simp [Op.stringOp]) (by simp) hd k
theorem lssS (k : LY st P ds n ops l Q ((d, .bool (Op.bytesLess a b)) :: E) w) : LY st P ds n ops (⟨some d, .binOp .lss t x y yt, ty, pos, af, none⟩ :: l) Q E w := binS hx hy (fun w => by simp [Op.stringOp]) (by simp) hd k
theorem gtrS (k : LY st P ds n ops l Q ((d, .bool (!(Op.bytesLess a b || a == b))) :: E) w) : LY st P ds n ops (⟨some d, .binOp .gtr t x y yt, ty, pos, af, none⟩ :: l) Q E w := binS hx hy (fun w => by simp [Op.stringOp]) (by simp) hd k
theorem addS (hs : a.length + b.length ≤ 9223372036854775807) (k : LY st P ds n ops l Q ((d, .string (S (a ++ b))) :: E) w) : LY st P ds n ops (⟨some d, .binOp .add t x y yt, ty, pos, af, none⟩ :: l) Q E w :=
  binS hx hy (fun w => by
    have : ¬ ((((S a).size + (S b).size : Nat) : Int) > IntKind.i64.max) := by simp [IntKind.max, IntKind.signed, IntKind.bits]; omega
    simp only [Op.stringOp, if_neg this, S_append]; rfl) (by simp) hd k
end str
theorem lenS {x : Operand} {t : TypeId} {a : List UInt8} (hx : opd E x = some (.string (S a))) (hu : P.underlying t = some .string) (hd : Nat.blt d n = true) (k : LY st P ds n ops l Q ((d, .int .i64 a.length) :: E) w) :
    LY st P ds n ops (⟨some d, .call ⟨.builtin .len, #[x], #[t]⟩, ty, pos, af, none⟩ :: l) Q E w :=
  LY.rd _ hd (fun ac ha w _ => by simp [execOp, resolve, opd_eval ha hx, invoke, builtin, Builtin.len_, underlying, program, Sem.run, hu, goInt]) k
theorem lenV {x : Operand} {t e : TypeId} {b : Option Addr} {m c : Nat} (hx : opd E x = some (.slice b m c)) (hu : P.underlying t = some (.slice e)) (hd : Nat.blt d n = true) (k : LY st P ds n ops l Q ((d, .int .i64 m) :: E) w) :
    LY st P ds n ops (⟨some d, .call ⟨.builtin .len, #[x], #[t]⟩, ty, pos, af, none⟩ :: l) Q E w :=
  LY.rd _ hd (fun ac ha w _ => by simp [execOp, resolve, opd_eval ha hx, invoke, builtin, Builtin.len_, underlying, program, Sem.run, hu, goInt]) k
theorem capV {x : Operand} {t e : TypeId} {b : Option Addr} {m c : Nat} (hx : opd E x = some (.slice b m c)) (hu : P.underlying t = some (.slice e)) (hd : Nat.blt d n = true) (k : LY st P ds n ops l Q ((d, .int .i64 c) :: E) w) :
    LY st P ds n ops (⟨some d, .call ⟨.builtin .cap, #[x], #[t]⟩, ty, pos, af, none⟩ :: l) Q E w :=
  LY.rd _ hd (fun ac ha w _ => by simp [execOp, resolve, opd_eval ha hx, invoke, builtin, Builtin.cap_, underlying, program, Sem.run, hu, goInt]) k
theorem lenM {x : Operand} {t kt e : TypeId} {r c : Nat} {es : Array MapEntry} (hx : opd E x = some (.map (some r))) (hu : P.underlying t = some (.map kt e)) (hr : Kn st w fun w => w.heap[r]? = some (.map es c)) (hd : Nat.blt d n = true) (k : LY st P ds n ops l Q ((d, .int .i64 es.size) :: E) w) :
    LY st P ds n ops (⟨some d, .call ⟨.builtin .len, #[x], #[t]⟩, ty, pos, af, none⟩ :: l) Q E w :=
  LY.rd _ hd (fun ac ha w hs => by simp [execOp, resolve, opd_eval ha hx, invoke, builtin, Builtin.len_, underlying, program, Sem.run, hu, goInt, getObj, hr w hs]) k
theorem idxS {x i : Operand} {t : TypeId} {a : List UInt8} {κ : IntKind} {j : Int} {b : UInt8} (hx : opd E x = some (.string (S a))) (hi : opd E i = some (.int κ j)) (hu : P.underlying t = some .string) (hd : Nat.blt d n = true) (h0 : 0 ≤ j) (hb : a[j.toNat]? = some b)
    (k : LY st P ds n ops l Q ((d, .int .u8 b.toNat) :: E) w) : LY st P ds n ops (⟨some d, .index t x i, ty, pos, af, none⟩ :: l) Q E w :=
  LY.rd _ hd (fun ac ha w _ => by
    have hg : (S a)[j.toNat]? = some b := S_get hb
    simp [execOp, opd_eval ha hx, opd_eval ha hi, Instr.index, asIntOf, underlying, program, Sem.run, hu, h0, hg]) k
theorem slS {x lo hi : Operand} {t : TypeId} {a : List UInt8} {κ κ' : IntKind} {i j : Int} (hx : opd E x = some (.string (S a))) (hl : opd E lo = some (.int κ i)) (hh : opd E hi = some (.int κ' j)) (hu : P.underlying t = some .string) (hd : Nat.blt d n = true) (h0 : 0 ≤ i) (h1 : i ≤ j) (h2 : j ≤ a.length)
    (k : LY st P ds n ops l Q ((d, .string (S ((a.drop i.toNat).take (j.toNat - i.toNat)))) :: E) w) : LY st P ds n ops (⟨some d, .slice t x (some lo) (some hi) none, ty, pos, af, none⟩ :: l) Q E w :=
  LY.rd _ hd (fun ac ha w _ => by
    have h3 : 0 ≤ j ∧ j ≤ ((S a).size : Int) := ⟨by omega, by simpa using h2⟩
    have h4 : 0 ≤ i ∧ i ≤ (j.toNat : Int) := ⟨h0, by omega⟩
    have e1 : ((S a).extract i.toNat j.toNat) = S ((a.drop i.toNat).take (j.toNat - i.toNat)) := S_extract _ _ _
    simp only [execOp, opd_eval ha hx, opd_eval ha hl, opd_eval ha hh, Option.map_some, Option.map_none, Instr.sliceAt, Instr.slice, Instr.sliceBounds, Instr.sliceBound, asIntOf, underlying, program, Sem.run_bind, Sem.run, Result.andThen_ok, hu, Sem.run_pure, Sem.run_ite, if_pos h3, if_pos h4, Option.isSome_none, Bool.false_eq_true, if_false, e1]) k
theorem slSl {x lo : Operand} {t : TypeId} {a : List UInt8} {κ : IntKind} {i : Int} (hx : opd E x = some (.string (S a))) (hl : opd E lo = some (.int κ i)) (hu : P.underlying t = some .string) (hd : Nat.blt d n = true) (h0 : 0 ≤ i) (h1 : i ≤ a.length)
    (k : LY st P ds n ops l Q ((d, .string (S (a.drop i.toNat))) :: E) w) : LY st P ds n ops (⟨some d, .slice t x (some lo) none none, ty, pos, af, none⟩ :: l) Q E w :=
  LY.rd _ hd (fun ac ha w _ => by
    simp [execOp, opd_eval ha hx, opd_eval ha hl, Instr.sliceAt, Instr.slice, Instr.sliceBounds, Instr.sliceBound, asIntOf, underlying, program, Sem.run, hu]
    simp [h0, h1, S_extract]
    rw [List.take_of_length_le (by simp)]) k
theorem slSh {x hi : Operand} {t : TypeId} {a : List UInt8} {κ : IntKind} {j : Int} (hx : opd E x = some (.string (S a))) (hh : opd E hi = some (.int κ j)) (hu : P.underlying t = some .string) (hd : Nat.blt d n = true) (h0 : 0 ≤ j) (h1 : j ≤ a.length)
    (k : LY st P ds n ops l Q ((d, .string (S (a.take j.toNat))) :: E) w) : LY st P ds n ops (⟨some d, .slice t x none (some hi) none, ty, pos, af, none⟩ :: l) Q E w :=
  LY.rd _ hd (fun ac ha w _ => by
    simp [execOp, opd_eval ha hx, opd_eval ha hh, Instr.sliceAt, Instr.slice, Instr.sliceBounds, Instr.sliceBound, asIntOf, underlying, program, Sem.run, hu]
    simp [h0, h1, S_extract]) k

-- equality with nil, of bools
theorem binG {op : BinOp} {x y : Operand} {t yt : TypeId} {a b v : Value} (hx : opd E x = some a) (hy : opd E y = some b) (hg : ∀ x y w, (eqGuard op t x y a b).run P w = .ok () w) (hr : ∀ w, (binOp op t a b).run P w = .ok v w) (hd : Nat.blt d n = true)
    (k : LY st P ds n ops l Q ((d, v) :: E) w) : LY st P ds n ops (⟨some d, .binOp op t x y yt, ty, pos, af, none⟩ :: l) Q E w :=
  LY.rd v hd (fun ac ha w _ => by simp [execOp, opd_eval ha hx, opd_eval ha hy, hg, hr]) k
theorem pointee_of {t e : TypeId} (hu : P.underlying t = some (.pointer e)) : P.underlying t = some (.pointer (P.pointee t)) := by simp [Program.pointee, hu]
theorem eqlPN {x : Operand} {t yt e : TypeId} {p : Option Addr} (hx : opd E x = some (.pointer p)) (hu : P.underlying t = some (.pointer e)) (hd : Nat.blt d n = true) (k : LY st P ds n ops l Q ((d, .bool p.isNone) :: E) w) :
    LY st P ds n ops (⟨some d, .binOp .eql t x (.const (.pointer none)) yt, ty, pos, af, none⟩ :: l) Q E w :=
  binG hx rfl (fun _ _ _ => run_eqGuard_ptr _ _ _ _ _ _) (fun w => run_eql_pointer_nil w t p (pointee_of hu)) hd k
theorem neqPN {x : Operand} {t yt e : TypeId} {p : Option Addr} (hx : opd E x = some (.pointer p)) (hu : P.underlying t = some (.pointer e)) (hd : Nat.blt d n = true) (k : LY st P ds n ops l Q ((d, .bool (!p.isNone)) :: E) w) :
    LY st P ds n ops (⟨some d, .binOp .neq t x (.const (.pointer none)) yt, ty, pos, af, none⟩ :: l) Q E w :=
  binG hx rfl (fun _ _ _ => run_eqGuard_ptr _ _ _ _ _ _) (fun w => run_neq_pointer_nil w t p (pointee_of hu)) hd k
theorem eqlVN {x : Operand} {t yt e : TypeId} {p : Option Addr} {m c : Nat} (hx : opd E x = some (.slice p m c)) (hu : P.underlying t = some (.slice e)) (hd : Nat.blt d n = true) (k : LY st P ds n ops l Q ((d, .bool p.isNone) :: E) w) :
    LY st P ds n ops (⟨some d, .binOp .eql t x (.const (.slice none 0 0)) yt, ty, pos, af, none⟩ :: l) Q E w :=
  binG hx rfl (fun _ _ _ => run_eqGuard_slice _ _ _ _ _ _ _ _ _ _) (fun w => Go.Lib.run_eql_slice_nil w t e p m c 0 0 hu) hd k
theorem neqVN {x : Operand} {t yt e : TypeId} {p : Option Addr} {m c : Nat} (hx : opd E x = some (.slice p m c)) (hu : P.underlying t = some (.slice e)) (hd : Nat.blt d n = true) (k : LY st P ds n ops l Q ((d, .bool (!p.isNone)) :: E) w) :
    LY st P ds n ops (⟨some d, .binOp .neq t x (.const (.slice none 0 0)) yt, ty, pos, af, none⟩ :: l) Q E w :=
  binG hx rfl (fun _ _ _ => run_eqGuard_slice _ _ _ _ _ _ _ _ _ _) (fun w => run_neq_slice_nil w t e p m c hu) hd k
theorem eqlB {x y : Operand} {t yt : TypeId} {a b : Bool} (hx : opd E x = some (.bool a)) (hy : opd E y = some (.bool b)) (hu : P.underlying t = some .bool) (hd : Nat.blt d n = true) (k : LY st P ds n ops l Q ((d, .bool (a == b)) :: E) w) :
    LY st P ds n ops (⟨some d, .binOp .eql t x y yt, ty, pos, af, none⟩ :: l) Q E w :=
  binG hx hy (fun _ _ _ => run_eqGuard_bool _ _ _ _ _ _) (fun w => run_eql_bool w t a b hu) hd k
theorem neqB {x y : Operand} {t yt : TypeId} {a b : Bool} (hx : opd E x = some (.bool a)) (hy : opd E y = some (.bool b)) (hu : P.underlying t = some .bool) (hd : Nat.blt d n = true) (k : LY st P ds n ops l Q ((d, .bool (!(a == b))) :: E) w) :
    LY st P ds n ops (⟨some d, .binOp .neq t x y yt, ty, pos, af, none⟩ :: l) Q E w :=
  binG hx hy (fun _ _ _ => run_eqGuard_bool _ _ _ _ _ _) (fun w => run_neq_bool w t a b hu) hd k
end ops
end Go.Proofs.YtmdpmpdlkaogdaaGreatDoor.Vc

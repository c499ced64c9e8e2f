/-
  What the laws on machines call, told of all three lists at once.
-/
import Derived.Test.YtenfleceeeimlaaSameM
namespace Go.Proofs.Ytenfleceeeimlaa.Num
open Go.RowKit Go.Proofs.Fl
set_option linter.unusedVariables false
set_option linter.unusedSimpArgs false
/-- a machine's lists, readable -/
structure Lists (w : World) (A B C : Option Addr) (zs xs ys : List Int) : Prop where
  a : Rd w w.heap.size A (i64s zs)
  b : Rd w w.heap.size B (i64s xs)
  c : Rd w w.heap.size C (i64s ys)
theorem Lists.step {w w' : World} {A B C : Option Addr} {zs xs ys : List Int} (h : Lists w A B C zs xs ys) (hb : Below w.heap.size w w') : Lists w' A B C zs xs ys := ⟨rd_step h.a hb, rd_step h.b hb, rd_step h.c hb⟩
theorem Lists.alloc {w : World} {A B C : Option Addr} {zs xs ys : List Int} (h : Lists w A B C zs xs ys) (o : Obj) : Lists (w.alloc o) A B C zs xs ys := ⟨rd_alloc h.a o, rd_alloc h.b o, rd_alloc h.c o⟩
theorem Lists.drewN {w : World} {A B C : Option Addr} {zs xs ys : List Int} (h : Lists w A B C zs xs ys) (k : Nat) : Lists (w.drewN k) A B C zs xs ys := ⟨h.a, h.b, h.c⟩
theorem Lists.drew {w : World} {A B C : Option Addr} {zs xs ys : List Int} (h : Lists w A B C zs xs ys) : Lists w.drew A B C zs xs ys := ⟨h.a, h.b, h.c⟩
theorem NewM.lists {base : Nat} {w : World} {g0 g1 g2 n m q : Nat} {zs xs ys : List Int} (h : NewM base w g0 g1 g2 n m q zs xs ys) : Lists w (some ⟨g0, 0, none⟩) (some ⟨g1, 0, none⟩) (some ⟨g2, 0, none⟩) zs xs ys := ⟨h.a.rd, h.s.rd, h.e.rd⟩
theorem MachAt.drew {w : World} {b : Nat} {S L : Int} {A : Option Addr} {n c : Nat} {B : Option Addr} {m d : Nat} {C : Option Addr} {q f : Nat} (h : MachAt w b S L A n c B m d C q f) : MachAt w.drew b S L A n c B m d C q f := ⟨h.c0, h.c1, h.c2, h.c3, h.c4⟩
structure Fits (n m q : Nat) (zs xs ys : List Int) : Prop where
  z : zs.length = n * 4
  x : xs.length = m
  y : ys.length = q
  n : n ≤ 1048576
  m : m ≤ 1048576
  q : q ≤ 1048576
theorem toM (S L : Int) (A : Option Addr) (n c : Nat) (B : Option Addr) (m d : Nat) (C : Option Addr) (q f : Nat) (zs xs ys : List Int) (h : Fits n m q zs xs ys) (w : World) (hl : Lists w A B C zs xs ys) :
    Calls Try.prog 10 #[.agg #[.int .i64 S, .int .i64 L, .slice A n c, .slice B m d, .slice C q f]] w (RetMachine S L n m q zs xs ys w) :=
  toMachine_calls S L A n c B m d C q f zs xs ys h.z h.x h.y h.n h.m h.q w hl.a hl.b hl.c
theorem eqM (S L : Int) (A : Option Addr) (n c : Nat) (B : Option Addr) (m d : Nat) (C : Option Addr) (q f : Nat) (A' : Option Addr) (c' : Nat) (B' : Option Addr) (d' : Nat) (C' : Option Addr) (f' : Nat) (zs xs ys : List Int) (h : Fits n m q zs xs ys) (w : World) (hl : Lists w A B C zs xs ys) (hl' : Lists w A' B' C' zs xs ys) :
    Calls Try.prog 12 #[.agg #[.int .i64 S, .int .i64 L, .slice A n c, .slice B m d, .slice C q f], .agg #[.int .i64 S, .int .i64 L, .slice A' n c', .slice B' m d', .slice C' q f']] w (RetG (.bool true) w) :=
  eqMachine_yes S L A n c B m d C q f A' c' B' d' C' f' zs xs ys h.z h.x h.y h.n h.m h.q w hl.a hl.b hl.c hl'.a hl'.b hl'.c
end Go.Proofs.Ytenfleceeeimlaa.Num

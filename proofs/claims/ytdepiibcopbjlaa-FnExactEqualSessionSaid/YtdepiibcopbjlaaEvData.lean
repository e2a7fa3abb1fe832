/- The program's data as Lean structures, and as trees. -/
import Derived.Test.YtdepiibcopbjlaaEvGen
namespace Go.Ev
open Go
structure Rx where
  kind : Int
  letter : ByteArray
  args : List Rx
theorem Rx.lt (r : Rx) {x : Rx} (h : x ∈ r.args) : SizeOf.sizeOf x < SizeOf.sizeOf r := by
  have h1 := List.sizeOf_lt_of_mem h
  cases r
  simp only [Rx.mk.sizeOf_spec]
  dsimp only at h1
  omega
def Rx.enc (r : Rx) : V := .agg [.int .i64 r.kind, .str r.letter, .slc false 3 (r.args.map Rx.enc)]
  termination_by SizeOf.sizeOf r
  decreasing_by exact Rx.lt _ ‹_›
theorem Rx.enc_eq (r : Rx) : r.enc = .agg [.int .i64 r.kind, .str r.letter, .slc false 3 (r.args.map Rx.enc)] := by rw [Rx.enc]
structure Vals where
  x : ByteArray
  y : ByteArray
  z : ByteArray
def Vals.cells (v : Vals) : List V := [.str v.x, .str v.y, .str v.z]
def Vals.enc (v : Vals) : V := .agg [.str v.x, .str v.y, .str v.z]
structure Mor where
  a : ByteArray
  b : ByteArray
  c : ByteArray
def Mor.enc (v : Mor) : V := .agg [.str v.a, .str v.b, .str v.c]
structure Sta where
  left : ByteArray
  right : ByteArray
  maps : List Int
def Sta.enc (s : Sta) : V := .agg [.str s.left, .str s.right, .slc false 1 (s.maps.map I)]
structure Con where
  kind : Int
  left : ByteArray
  right : ByteArray
  regex : Rx
  coeffs : List Int
  bound : Int
def Con.enc (c : Con) : V := .agg [.int .i64 c.kind, .str c.left, .str c.right, .int .i64 c.regex.kind, .str c.regex.letter, .slc false 3 (c.regex.args.map Rx.enc), .slc false 1 (c.coeffs.map I), .int .i64 c.bound]
structure Line where
  kind : Int
  text : ByteArray
  mor : Mor
  regex : Rx
def Line.enc (l : Line) : V := .agg [.int .i64 l.kind, .str l.text, .str l.mor.a, .str l.mor.b, .str l.mor.c, .int .i64 l.regex.kind, .str l.regex.letter, .slc false 3 (l.regex.args.map Rx.enc)]
structure Ans where
  code : Int
  vals : Vals
  nodes : List Sta
  bound : Int
def Ans.enc (a : Ans) : V := .agg [.int .i64 a.code, .str a.vals.x, .str a.vals.y, .str a.vals.z, .slc false 3 (a.nodes.map Sta.enc), .int .i64 a.bound]
structure Prob where
  list : List Con
def Prob.enc (p : Prob) : V := .agg [.slc false 8 (p.list.map Con.enc)]
structure Prog where
  lines : List Line
def Prog.enc (p : Prog) : V := .agg [.slc false 8 (p.lines.map Line.enc)]
structure Ses where
  prob : Prob
  ans : Ans
  prog : Prog
def Ses.enc (s : Ses) : V := .agg [.slc false 8 (s.prob.list.map Con.enc), .int .i64 s.ans.code, .str s.ans.vals.x, .str s.ans.vals.y, .str s.ans.vals.z, .slc false 3 (s.ans.nodes.map Sta.enc), .int .i64 s.ans.bound, .slc false 8 (s.prog.lines.map Line.enc)]
attribute [go_sem] Prob.enc Prog.enc
attribute [go_sem] Rx.enc_eq Vals.enc Mor.enc Sta.enc Con.enc Line.enc Ans.enc Ses.enc
end Go.Ev

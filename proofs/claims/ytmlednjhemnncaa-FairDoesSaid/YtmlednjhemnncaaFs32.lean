/- Texts joined by pack.py: XFc5 -/
import Derived.Test.YtmlednjhemnncaaFs31
namespace Go.Proofs.Ytmlednjhemnncaa
open Go.RowKit
section
set_option maxRecDepth 100000
end
structure Opf where
  k : Int
  j : Jb
  n : Int
def opfD (o : Opf) : List D := [.cv (.int .i64 o.k), .cv (.string o.j.id), .cv (.string o.j.tn), .cv (.int .i64 o.j.co), .cv (.int .i64 o.n)]
abbrev Opf.V (o : Opf) : V := .ag [int o.k, str o.j.id, str o.j.tn, int o.j.co, int o.n]
end Go.Proofs.Ytmlednjhemnncaa

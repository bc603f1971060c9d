/- The walk of step. Condition: the arena and the reference are in one state. -/
import Derived.Test.YthllilkafdgheaaCib
import Derived.Test.YthllilkafdgheaaCic
import Derived.Test.YthllilkafdgheaaCid
import Derived.Test.YthllilkafdgheaaCif
import Derived.Test.YthllilkafdgheaaCig
namespace Go.Proofs.Ythllilkafdgheaa
open Go.RowKit
set_option linter.unusedVariables false
theorem step_any {K : Nat → Obj → Prop} (w : World) (p : Nat) (s : St) (v : Value) (o : OpV) (W : World) (h : Both K w p s v W) (hnx : s.next < 1000) (hcp : s.cap ≤ 300) (hwf : (Lit.int .i64 o.n).wf = true) (hm : o.m ≤ 300) (hds : ReadsI o.b o.m o.ds w) :
    Calls Try.prog 24 #[.pointer (some ⟨p, 0, none⟩), sval s v, .agg #[.int .i64 o.k, .int .i64 o.n, .slice o.b o.m o.c]] W fun e w' => Stepped K w p s e w' := by
  by_cases h1 : o.k = 1
  · exact step_give w p s v o W h hnx hcp hwf hm hds h1
  by_cases h2 : o.k = 2
  · exact step_free w p s v o W h hnx hcp hwf hm hds h2
  by_cases h3 : o.k = 3
  · exact step_put w p s v o W h hnx hcp hwf hm hds h3
  by_cases h4 : o.k = 4
  · exact step_get w p s v o W h hnx hcp hwf hm hds h4
  exact step_none w p s v o W h hnx hcp hwf hm hds ⟨h1, h2, h3, h4⟩
end Go.Proofs.Ythllilkafdgheaa

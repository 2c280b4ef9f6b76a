/- Locks: play. -/
import Derived.Test.YtpidpdbjjdkhoaaGreatLkX
namespace Go.Proofs.YtpidpdbjjdkhoaaGreat
open Go.RowKit
set_option linter.unusedSimpArgs false
set_option linter.unusedVariables false
attribute [local go_sem ↓] Go.wp_at_zero Go.wp_at_succ

structure LOp where
  kind : Int
  id : Idn
  key : ByteArray
  mode : Int
def lopV (o : LOp) : Value := .agg #[.int .i64 o.kind, .int .i64 o.id.n, .int .i64 o.id.c, .string o.key, .int .i64 o.mode]
def lopL (o : LOp) : Lk := ⟨o.key, o.id, o.mode⟩
def playT (q : Tb) (o : LOp) : Tb := if o.kind = 0 then askT q (lopL o) else if o.kind = 1 then prepT q o.id else (endS q o.id).1
def playE (q : Tb) (o : LOp) : Int := if o.kind = 0 then askE q (lopL o) else if o.kind = 1 then prepE q o.id else 0
def playI (q : Tb) (o : LOp) : List Idn := if o.kind = 0 then askH q (lopL o) else []
def playL (q : Tb) (o : LOp) : List Lk := if o.kind = 0 then [] else if o.kind = 1 then [] else (endS q o.id).2
end Go.Proofs.YtpidpdbjjdkhoaaGreat

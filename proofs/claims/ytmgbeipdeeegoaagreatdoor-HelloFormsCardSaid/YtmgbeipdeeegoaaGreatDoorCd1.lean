/- The code of the functions, resolved (by a program of this session's, out of Lean's own print): part 1. -/
import Derived.Test.YtmgbeipdeeegoaaGreatDoorAe15
import Derived.Test.YtmgbeipdeeegoaaGreatDoorProg
namespace Go.Proofs.YtmgbeipdeeegoaaGreatDoor.S
open Go.AE
set_option maxRecDepth 100000
/-- halberd/aead.Sizes -/
noncomputable def d42 : Go.AE.Fd := { np := 1, res := [.tmp (.i .h), .tmp (.o (.o .h)), .tmp (.i (.o .h))], code :=
   (.seq (.reg [⟨(some (.i .h)), none, .mov (.c (.int .i64 0)), 0, true⟩,
    ⟨(some (.o (.o .h))), none, .mov (.c (.int .i64 0)), 0, true⟩,
    ⟨(some (.i (.o .h))), none, .mov (.c (.int .i64 0)), 0, true⟩] 0)
   (.seq (.seq (.reg [⟨(some (.o (.i .h))), none, .mov (.s .h), 0, true⟩] 0)
   (.block 0 (.seq (.reg [⟨(some (.o (.o (.o .h)))), none, .bin .eql (.s (.o (.i .h))) (.c (.int .i64 4865)), 0, true⟩,
    ⟨(some (.i (.i .h))), none, .mov (.s (.o (.o (.o .h)))), 0, true⟩] 0)
   (.cond (.s (.i (.i .h)))
   (.seq (.reg [⟨(some (.i .h)), none, .mov (.c (.int .i64 16)), 0, true⟩,
    ⟨(some (.o (.o .h))), none, .mov (.c (.int .i64 256)), 0, true⟩,
    ⟨(some (.i (.o .h))), none, .mov (.c (.int .i64 0)), 0, true⟩] 0)
   .ret)
   (.seq (.reg [⟨(some (.o (.i (.o .h)))), none, .bin .eql (.s (.o (.i .h))) (.c (.int .i64 4866)), 0, true⟩,
    ⟨(some (.i (.o (.o .h)))), none, .mov (.s (.o (.i (.o .h)))), 0, true⟩] 0)
   (.cond (.s (.i (.o (.o .h))))
   (.seq (.reg [⟨(some (.i .h)), none, .mov (.c (.int .i64 32)), 0, true⟩,
    ⟨(some (.o (.o .h))), none, .mov (.c (.int .i64 384)), 0, true⟩,
    ⟨(some (.i (.o .h))), none, .mov (.c (.int .i64 0)), 0, true⟩] 0)
   .ret)
   (.seq (.reg [⟨(some (.o (.o (.i .h)))), none, .bin .eql (.s (.o (.i .h))) (.c (.int .i64 4867)), 0, true⟩,
    ⟨(some (.i (.i (.o .h)))), none, .mov (.s (.o (.o (.i .h)))), 0, true⟩] 0)
   (.cond (.s (.i (.i (.o .h))))
   (.seq (.reg [⟨(some (.i .h)), none, .mov (.c (.int .i64 32)), 0, true⟩,
    ⟨(some (.o (.o .h))), none, .mov (.c (.int .i64 256)), 0, true⟩,
    ⟨(some (.i (.o .h))), none, .mov (.c (.int .i64 0)), 0, true⟩] 0)
   .ret)
   .skip))))))))
   (.seq (.reg [⟨(some (.i .h)), none, .mov (.c (.int .i64 0)), 0, true⟩,
    ⟨(some (.o (.o .h))), none, .mov (.c (.int .i64 0)), 0, true⟩,
    ⟨(some (.i (.o .h))), none, .mov (.c (.int .i64 800)), 0, true⟩] 0)
   .ret))) }

/-- halberd/hello.suite -/
noncomputable def d25 : Go.AE.Fd := { np := 1, res := [.tmp (.i .h)], code :=
   (.seq (.reg [⟨(some (.i .h)), none, .mov (.c (.bool false)), 0, true⟩] 0)
   (.seq (.reg [⟨(some (.o (.o (.o .h)))), none, .mov (.s .h), 0, true⟩,
    ⟨(some (.i (.o (.o .h)))), none, .call (.i (.i (.o (.i (.o .h))))) [(.s (.o (.o (.o .h))))], 0, true⟩,
    ⟨(some (.i (.i .h))), none, .mov (.s (.i (.o (.o .h)))), 0, true⟩,
    ⟨(some (.o (.i (.o .h)))), none, .ext 0 (.s (.i (.i .h))), 0, true⟩,
    ⟨(some (.i (.i (.o .h)))), none, .ext 1 (.s (.i (.i .h))), 0, true⟩,
    ⟨(some (.o (.o (.i .h)))), none, .ext 2 (.s (.i (.i .h))), 0, true⟩,
    ⟨(some (.o (.o .h))), none, .mov (.s (.o (.i (.o .h)))), 0, true⟩,
    ⟨(some (.i (.o .h))), none, .mov (.s (.i (.i (.o .h)))), 0, true⟩,
    ⟨(some (.o (.i .h))), none, .mov (.s (.o (.o (.i .h)))), 0, true⟩] 0)
   (.seq (.reg [⟨(some (.i (.o (.i .h)))), none, .mov (.s (.o (.i .h))), 0, true⟩,
    ⟨(some (.o (.i (.i .h)))), none, .bin .eql (.s (.i (.o (.i .h)))) (.c (.int .i64 0)), 0, true⟩,
    ⟨(some (.i .h)), none, .mov (.s (.o (.i (.i .h)))), 0, true⟩] 0)
   .ret))) }

/-- halberd/hello.group -/
noncomputable def d26 : Go.AE.Fd := { np := 1, res := [.tmp (.i .h)], code :=
   (.seq (.reg [⟨(some (.i .h)), none, .mov (.c (.bool false)), 0, true⟩] 0)
   (.seq (.reg [⟨(some (.o (.o .h))), none, .mov (.s .h), 0, true⟩,
    ⟨(some (.i (.o .h))), none, .bin .eql (.s (.o (.o .h))) (.c (.int .i64 29)), 0, true⟩,
    ⟨(some (.o (.i .h))), none, .mov (.s (.i (.o .h))), 0, true⟩,
    ⟨(some (.i (.i .h))), (some ((.o (.i .h)), false)), .mov (.s .h), 0, true⟩,
    ⟨(some (.o (.o (.o .h)))), (some ((.o (.i .h)), false)), .bin .eql (.s (.i (.i .h))) (.c (.int .i64 23)), 0, true⟩,
    ⟨(some (.i (.o (.o .h)))), none, .pick (.s (.o (.i .h))) (.c (.bool true)) (.s (.o (.o (.o .h)))), 0, true⟩,
    ⟨(some (.i .h)), none, .mov (.s (.i (.o (.o .h)))), 0, true⟩] 0)
   .ret)) }

/-- halberd/hello.in -/
noncomputable def d27 : Go.AE.Fd := { np := 3, res := [.tmp (.i (.i .h))], code :=
   (.seq (.reg [⟨(some (.i (.i .h))), none, .mov (.c (.bool false)), 0, true⟩] 0)
   (.seq (.reg [⟨(some (.o (.o (.o .h)))), none, .mov (.s .h), 0, true⟩,
    ⟨(some (.i (.o (.o .h)))), none, .mov (.s (.o .h)), 0, true⟩,
    ⟨(some (.o (.i (.o .h)))), none, .bin .geq (.s (.o (.o (.o .h)))) (.s (.i (.o (.o .h)))), 0, true⟩,
    ⟨(some (.i (.i (.o .h)))), none, .mov (.s (.o (.i (.o .h)))), 0, true⟩,
    ⟨(some (.o (.o (.i .h)))), (some ((.i (.i (.o .h))), true)), .mov (.s .h), 0, true⟩,
    ⟨(some (.i (.o (.i .h)))), (some ((.i (.i (.o .h))), true)), .mov (.s (.i .h)), 0, true⟩,
    ⟨(some (.o (.i (.i .h)))), (some ((.i (.i (.o .h))), true)), .bin .leq (.s (.o (.o (.i .h)))) (.s (.i (.o (.i .h)))), 0, true⟩,
    ⟨(some (.i (.i (.i .h)))), none, .pick (.s (.i (.i (.o .h)))) (.s (.o (.i (.i .h)))) (.c (.bool false)), 0, true⟩,
    ⟨(some (.i (.i .h))), none, .mov (.s (.i (.i (.i .h)))), 0, true⟩] 0)
   .ret)) }

/-- slices.Index[[]int,int] -/
noncomputable def d54 : Go.AE.Fd := { np := 2, res := [.tmp (.i (.o .h))], code :=
   (.seq (.reg [⟨(some (.i (.o .h))), none, .mov (.c (.int .i64 0)), 0, true⟩] 0)
   (.seq (.seq (.reg [⟨(some (.i (.i .h))), none, .mov (.s .h), 0, true⟩,
    ⟨(some (.o (.o (.o .h)))), none, .len (.s (.i (.i .h))), 0, true⟩,
    ⟨(some (.i (.o (.o .h)))), none, .mov (.c (.int .i64 0)), 0, true⟩] 0)
   (.block 0 (.loop (.seq (.reg [⟨(some (.o (.i (.o .h)))), none, .bin .lss (.s (.i (.o (.o .h)))) (.s (.o (.o (.o .h)))), 0, true⟩] 0)
   (.seq (.cond (.s (.o (.i (.o .h))))
   .skip
   (.exit 0))
   (.seq (.block 1 (.seq (.reg [⟨(some (.i (.i (.o .h)))), none, .mov (.s (.i (.o (.o .h)))), 0, true⟩,
    ⟨(some (.o (.i .h))), none, .mov (.s (.i (.i (.o .h)))), 0, true⟩] 0)
   (.seq (.reg [⟨(some (.o (.o (.i .h)))), none, .mov (.s (.o .h)), 0, true⟩,
    ⟨(some (.i (.o (.i .h)))), none, .mov (.s .h), 0, true⟩,
    ⟨(some (.o (.i (.i .h)))), none, .mov (.s (.o (.i .h))), 0, true⟩,
    ⟨(some (.i (.i (.i .h)))), none, .ixS 1 (.s (.i (.o (.i .h)))) (.s (.o (.i (.i .h)))), 0, true⟩,
    ⟨(some (.o (.o (.o (.o .h))))), none, .load false 1 (.s (.i (.i (.i .h)))), 0, true⟩,
    ⟨(some (.i (.o (.o (.o .h))))), none, .bin .eql (.s (.o (.o (.i .h)))) (.s (.o (.o (.o (.o .h))))), 0, true⟩] 0)
   (.cond (.s (.i (.o (.o (.o .h)))))
   (.seq (.reg [⟨(some (.o (.i (.o (.o .h))))), none, .mov (.s (.o (.i .h))), 0, true⟩,
    ⟨(some (.i (.o .h))), none, .mov (.s (.o (.i (.o (.o .h))))), 0, true⟩] 0)
   .ret)
   .skip))))
   (.reg [⟨(some (.i (.i (.o (.o .h))))), none, .bin .add (.s (.i (.o (.o .h)))) (.c (.int .i64 1)), 0, true⟩,
    ⟨(some (.i (.o (.o .h)))), none, .mov (.s (.i (.i (.o (.o .h))))), 0, true⟩] 0)))))))
   (.seq (.reg [⟨(some (.i (.o .h))), none, .mov (.c (.int .i64 (-1))), 0, true⟩] 0)
   .ret))) }

/-- slices.Contains[[]int,int] -/
noncomputable def d36 : Go.AE.Fd := { np := 2, res := [.tmp (.i (.o .h))], code :=
   (.seq (.reg [⟨(some (.i (.o .h))), none, .mov (.c (.bool false)), 0, true⟩] 0)
   (.seq (.reg [⟨(some (.o (.i .h))), none, .mov (.s .h), 0, true⟩,
    ⟨(some (.i (.i .h))), none, .mov (.s (.o .h)), 0, true⟩,
    ⟨(some (.o (.o (.o .h)))), none, .call (.i (.i (.i (.o (.i .h))))) [(.s (.o (.i .h))), (.s (.i (.i .h)))], 0, true⟩,
    ⟨(some (.i (.o (.o .h)))), none, .bin .geq (.s (.o (.o (.o .h)))) (.c (.int .i64 0)), 0, true⟩,
    ⟨(some (.i (.o .h))), none, .mov (.s (.i (.o (.o .h)))), 0, true⟩] 0)
   .ret)) }

/-- halberd/hello.each -/
noncomputable def d24 : Go.AE.Fd := { np := 3, res := [.tmp (.i (.i .h))], code :=
   (.seq (.reg [⟨(some (.i (.i .h))), none, .mov (.c (.bool false)), 0, true⟩] 0)
   (.seq (.seq (.reg [⟨(some (.o (.i (.o .h)))), none, .mov (.s .h), 0, true⟩,
    ⟨(some (.i (.i (.o .h)))), none, .len (.s (.o (.i (.o .h)))), 0, true⟩,
    ⟨(some (.o (.o (.i .h)))), none, .mov (.s (.o .h)), 0, true⟩,
    ⟨(some (.i (.o (.i .h)))), none, .call (.o (.o (.i (.i .h)))) [(.s (.i (.i (.o .h)))), (.c (.int .i64 1)), (.s (.o (.o (.i .h))))], 0, true⟩,
    ⟨(some (.o (.i (.i .h)))), none, .un .not (.s (.i (.o (.i .h)))), 0, true⟩] 0)
   (.cond (.s (.o (.i (.i .h))))
   (.seq (.reg [⟨(some (.i (.i .h))), none, .mov (.c (.bool false)), 0, true⟩] 0)
   .ret)
   .skip))
   (.seq (.seq (.reg [⟨(some (.i (.i (.i .h)))), none, .mov (.s .h), 0, true⟩,
    ⟨(some (.o (.o (.o (.o .h))))), none, .len (.s (.i (.i (.i .h)))), 0, true⟩,
    ⟨(some (.i (.o (.o (.o .h))))), none, .mov (.c (.int .i64 0)), 0, true⟩] 0)
   (.block 0 (.loop (.seq (.reg [⟨(some (.o (.i (.o (.o .h))))), none, .bin .lss (.s (.i (.o (.o (.o .h))))) (.s (.o (.o (.o (.o .h))))), 0, true⟩] 0)
   (.seq (.cond (.s (.o (.i (.o (.o .h)))))
   .skip
   (.exit 0))
   (.seq (.block 1 (.seq (.reg [⟨(some (.i (.i (.o (.o .h))))), none, .mov (.s (.i (.o (.o (.o .h))))), 0, true⟩,
    ⟨(some (.o (.o (.i (.o .h))))), none, .ixS 1 (.s (.i (.i (.i .h)))) (.s (.i (.o (.o (.o .h))))), 0, true⟩,
    ⟨(some (.i (.o (.i (.o .h))))), none, .load false 1 (.s (.o (.o (.i (.o .h))))), 0, true⟩,
    ⟨(some (.o (.o (.o .h)))), none, .mov (.s (.i (.i (.o (.o .h))))), 0, true⟩,
    ⟨(some (.i (.o (.o .h)))), none, .mov (.s (.i (.o (.i (.o .h))))), 0, true⟩] 0)
   (.seq (.reg [⟨(some (.o (.i (.i (.o .h))))), none, .mov (.s (.i .h)), 0, true⟩,
    ⟨(some (.i (.i (.i (.o .h))))), none, .mov (.s (.i (.o (.o .h)))), 0, true⟩,
    ⟨(some (.o (.o (.o (.i .h))))), none, .callv (.s (.o (.i (.i (.o .h))))) [(.s (.i (.i (.i (.o .h)))))], 0, true⟩,
    ⟨(some (.i (.o (.o (.i .h))))), none, .un .not (.s (.o (.o (.o (.i .h))))), 0, true⟩,
    ⟨(some (.o (.i (.o (.i .h))))), none, .mov (.s (.i (.o (.o (.i .h))))), 0, true⟩,
    ⟨(some (.i (.i (.o (.i .h))))), (some ((.o (.i (.o (.i .h)))), false)), .mov (.s .h), 0, true⟩,
    ⟨(some (.o (.o (.i (.i .h))))), (some ((.o (.i (.o (.i .h)))), false)), .mov (.s (.o (.o (.o .h)))), 0, true⟩,
    ⟨(some (.i (.o (.i (.i .h))))), (some ((.o (.i (.o (.i .h)))), false)), .slSl 1 (.s (.i (.i (.o (.i .h))))) none (some (.s (.o (.o (.i (.i .h)))))), 0, true⟩,
    ⟨(some (.o (.i (.i (.i .h))))), (some ((.o (.i (.o (.i .h)))), false)), .mov (.s (.i (.o (.o .h)))), 0, true⟩,
    ⟨(some (.i (.i (.i (.i .h))))), (some ((.o (.i (.o (.i .h)))), false)), .call (.i (.o (.i (.o (.o .h))))) [(.s (.i (.o (.i (.i .h))))), (.s (.o (.i (.i (.i .h)))))], 0, true⟩,
    ⟨(some (.o (.o (.o (.o (.o .h)))))), none, .pick (.s (.o (.i (.o (.i .h))))) (.c (.bool true)) (.s (.i (.i (.i (.i .h))))), 0, true⟩] 0)
   (.cond (.s (.o (.o (.o (.o (.o .h))))))
   (.seq (.reg [⟨(some (.i (.i .h))), none, .mov (.c (.bool false)), 0, true⟩] 0)
   .ret)
   .skip))))
   (.reg [⟨(some (.i (.o (.o (.o (.o .h)))))), none, .bin .add (.s (.i (.o (.o (.o .h))))) (.c (.int .i64 1)), 0, true⟩,
    ⟨(some (.i (.o (.o (.o .h))))), none, .mov (.s (.i (.o (.o (.o (.o .h)))))), 0, true⟩] 0)))))))
   (.seq (.reg [⟨(some (.i (.i .h))), none, .mov (.c (.bool true)), 0, true⟩] 0)
   .ret)))) }

/-- halberd/hello.certs$1 -/
noncomputable def d60 : Go.AE.Fd := { np := 1, res := [.tmp (.i .h)], code :=
   (.seq (.reg [⟨(some (.i .h)), none, .mov (.c (.bool false)), 0, true⟩] 0)
   (.seq (.reg [⟨(some (.o (.o .h))), none, .mov (.s .h), 0, true⟩,
    ⟨(some (.i (.o .h))), none, .lenS (.s (.o (.o .h))), 0, true⟩,
    ⟨(some (.o (.i .h))), none, .call (.o (.o (.i (.i .h)))) [(.s (.i (.o .h))), (.c (.int .i64 1)), (.c (.int .i64 16384))], 0, true⟩,
    ⟨(some (.i (.i .h))), none, .un .not (.s (.o (.i .h))), 0, true⟩,
    ⟨(some (.i .h)), none, .mov (.s (.i (.i .h))), 0, true⟩] 0)
   .ret)) }

/-- slices.IndexFunc[[]string,string] -/
noncomputable def d72 : Go.AE.Fd := { np := 2, res := [.tmp (.i (.o .h))], code :=
   (.seq (.reg [⟨(some (.i (.o .h))), none, .mov (.c (.int .i64 0)), 0, true⟩] 0)
   (.seq (.seq (.reg [⟨(some (.i (.i .h))), none, .mov (.s .h), 0, true⟩,
    ⟨(some (.o (.o (.o .h)))), none, .len (.s (.i (.i .h))), 0, true⟩,
    ⟨(some (.i (.o (.o .h)))), none, .mov (.c (.int .i64 0)), 0, true⟩] 0)
   (.block 0 (.loop (.seq (.reg [⟨(some (.o (.i (.o .h)))), none, .bin .lss (.s (.i (.o (.o .h)))) (.s (.o (.o (.o .h)))), 0, true⟩] 0)
   (.seq (.cond (.s (.o (.i (.o .h))))
   .skip
   (.exit 0))
   (.seq (.block 1 (.seq (.reg [⟨(some (.i (.i (.o .h)))), none, .mov (.s (.i (.o (.o .h)))), 0, true⟩,
    ⟨(some (.o (.i .h))), none, .mov (.s (.i (.i (.o .h)))), 0, true⟩] 0)
   (.seq (.reg [⟨(some (.o (.o (.i .h)))), none, .mov (.s (.o .h)), 0, true⟩,
    ⟨(some (.i (.o (.i .h)))), none, .mov (.s .h), 0, true⟩,
    ⟨(some (.o (.i (.i .h)))), none, .mov (.s (.o (.i .h))), 0, true⟩,
    ⟨(some (.i (.i (.i .h)))), none, .ixS 1 (.s (.i (.o (.i .h)))) (.s (.o (.i (.i .h)))), 0, true⟩,
    ⟨(some (.o (.o (.o (.o .h))))), none, .load false 1 (.s (.i (.i (.i .h)))), 0, true⟩,
    ⟨(some (.i (.o (.o (.o .h))))), none, .callv (.s (.o (.o (.i .h)))) [(.s (.o (.o (.o (.o .h)))))], 0, true⟩] 0)
   (.cond (.s (.i (.o (.o (.o .h)))))
   (.seq (.reg [⟨(some (.o (.i (.o (.o .h))))), none, .mov (.s (.o (.i .h))), 0, true⟩,
    ⟨(some (.i (.o .h))), none, .mov (.s (.o (.i (.o (.o .h))))), 0, true⟩] 0)
   .ret)
   .skip))))
   (.reg [⟨(some (.i (.i (.o (.o .h))))), none, .bin .add (.s (.i (.o (.o .h)))) (.c (.int .i64 1)), 0, true⟩,
    ⟨(some (.i (.o (.o .h)))), none, .mov (.s (.i (.i (.o (.o .h))))), 0, true⟩] 0)))))))
   (.seq (.reg [⟨(some (.i (.o .h))), none, .mov (.c (.int .i64 (-1))), 0, true⟩] 0)
   .ret))) }

/-- slices.ContainsFunc[[]string,string] -/
noncomputable def d59 : Go.AE.Fd := { np := 2, res := [.tmp (.i (.o .h))], code :=
   (.seq (.reg [⟨(some (.i (.o .h))), none, .mov (.c (.bool false)), 0, true⟩] 0)
   (.seq (.reg [⟨(some (.o (.i .h))), none, .mov (.s .h), 0, true⟩,
    ⟨(some (.i (.i .h))), none, .mov (.s (.o .h)), 0, true⟩,
    ⟨(some (.o (.o (.o .h)))), none, .call (.i (.o (.o (.i (.o (.o .h)))))) [(.s (.o (.i .h))), (.s (.i (.i .h)))], 0, true⟩,
    ⟨(some (.i (.o (.o .h)))), none, .bin .geq (.s (.o (.o (.o .h)))) (.c (.int .i64 0)), 0, true⟩,
    ⟨(some (.i (.o .h))), none, .mov (.s (.i (.o (.o .h)))), 0, true⟩] 0)
   .ret)) }

/-- halberd/hello.certs -/
noncomputable def d44 : Go.AE.Fd := { np := 2, res := [.tmp (.i (.o .h))], code :=
   (.seq (.reg [⟨(some (.i (.o .h))), none, .mov (.c (.bool false)), 0, true⟩] 0)
   (.seq (.reg [⟨(some (.o (.i .h))), none, .mov (.s .h), 0, true⟩,
    ⟨(some (.i (.i .h))), none, .len (.s (.o (.i .h))), 0, true⟩,
    ⟨(some (.o (.o (.o .h)))), none, .mov (.s (.o .h)), 0, true⟩,
    ⟨(some (.i (.o (.o .h)))), none, .call (.o (.o (.i (.i .h)))) [(.s (.i (.i .h))), (.s (.o (.o (.o .h)))), (.c (.int .i64 8))], 0, true⟩,
    ⟨(some (.o (.i (.o .h)))), none, .mov (.s (.i (.o (.o .h)))), 0, true⟩,
    ⟨(some (.i (.i (.o .h)))), (some ((.o (.i (.o .h))), true)), .mov (.s .h), 0, true⟩,
    ⟨(some (.o (.o (.i .h)))), (some ((.o (.i (.o .h))), true)), .call (.o (.o (.i (.i (.i .h))))) [(.s (.i (.i (.o .h)))), (.c (.fn (.i (.o (.i (.i (.i .h))))) []))], 0, true⟩,
    ⟨(some (.i (.o (.i .h)))), (some ((.o (.i (.o .h))), true)), .un .not (.s (.o (.o (.i .h)))), 0, true⟩,
    ⟨(some (.o (.i (.i .h)))), none, .pick (.s (.o (.i (.o .h)))) (.s (.i (.o (.i .h)))) (.c (.bool false)), 0, true⟩,
    ⟨(some (.i (.o .h))), none, .mov (.s (.o (.i (.i .h)))), 0, true⟩] 0)
   .ret)) }

/-- halberd/hello.fits -/
noncomputable def d45 : Go.AE.Fd := { np := 1, res := [.tmp (.i .h)], code :=
   (.seq (.reg [⟨(some (.i .h)), none, .mov (.c (.bool false)), 0, true⟩] 0)
   (.seq (.reg [⟨(some (.o (.o .h))), none, .mov (.c (.int .i64 8)), 0, true⟩] 0)
   (.seq (.seq (.reg [⟨(some (.i (.i .h))), none, .mov (.s .h), 0, true⟩,
    ⟨(some (.o (.o (.o .h)))), none, .len (.s (.i (.i .h))), 0, true⟩,
    ⟨(some (.i (.o (.o .h)))), none, .mov (.c (.int .i64 0)), 0, true⟩] 0)
   (.block 0 (.loop (.seq (.reg [⟨(some (.o (.i (.o .h)))), none, .bin .lss (.s (.i (.o (.o .h)))) (.s (.o (.o (.o .h)))), 0, true⟩] 0)
   (.seq (.cond (.s (.o (.i (.o .h))))
   .skip
   (.exit 0))
   (.seq (.block 1 (.seq (.reg [⟨(some (.i (.i (.o .h)))), none, .ixS 1 (.s (.i (.i .h))) (.s (.i (.o (.o .h)))), 0, true⟩,
    ⟨(some (.o (.o (.i .h)))), none, .load false 1 (.s (.i (.i (.o .h)))), 0, true⟩,
    ⟨(some (.o (.i .h))), none, .mov (.s (.o (.o (.i .h)))), 0, true⟩] 0)
   (.reg [⟨(some (.i (.o (.i .h)))), none, .mov (.s (.o (.o .h))), 0, true⟩,
    ⟨(some (.o (.i (.i .h)))), none, .mov (.s (.o (.i .h))), 0, true⟩,
    ⟨(some (.i (.i (.i .h)))), none, .lenS (.s (.o (.i (.i .h)))), 0, true⟩,
    ⟨(some (.o (.o (.o (.o .h))))), none, .bin .add (.s (.i (.i (.i .h)))) (.c (.int .i64 5)), 0, true⟩,
    ⟨(some (.i (.o (.o (.o .h))))), none, .bin .add (.s (.i (.o (.i .h)))) (.s (.o (.o (.o (.o .h))))), 0, true⟩,
    ⟨(some (.o (.o .h))), none, .mov (.s (.i (.o (.o (.o .h))))), 0, true⟩] 0)))
   (.reg [⟨(some (.o (.i (.o (.o .h))))), none, .bin .add (.s (.i (.o (.o .h)))) (.c (.int .i64 1)), 0, true⟩,
    ⟨(some (.i (.o (.o .h)))), none, .mov (.s (.o (.i (.o (.o .h))))), 0, true⟩] 0)))))))
   (.seq (.reg [⟨(some (.i (.i (.o (.o .h))))), none, .mov (.s (.o (.o .h))), 0, true⟩,
    ⟨(some (.o (.o (.i (.o .h))))), none, .bin .leq (.s (.i (.i (.o (.o .h))))) (.c (.int .i64 65536)), 0, true⟩,
    ⟨(some (.i .h)), none, .mov (.s (.o (.o (.i (.o .h))))), 0, true⟩] 0)
   .ret)))) }

/-- halberd/hello.server -/
noncomputable def d28 : Go.AE.Fd := { np := 1, res := [.tmp (.i .h)], code :=
   (.seq (.reg [⟨(some (.i .h)), none, .mov (.c (.bool false)), 0, true⟩] 0)
   (.seq (.reg [⟨(some (.o (.o (.o .h)))), none, .mov (.s .h), 0, true⟩,
    ⟨(some (.i (.o (.o .h)))), none, .nilc (.s (.o (.o (.o .h)))), 0, true⟩,
    ⟨(some (.o (.i (.o .h)))), none, .lea 4 (.s (.i (.o (.o .h)))), 0, true⟩,
    ⟨(some (.i (.i (.o .h)))), none, .load false 1 (.s (.o (.i (.o .h)))), 0, true⟩,
    ⟨(some (.o (.o (.i .h)))), none, .call (.o (.o (.i (.i (.o .h))))) [(.s (.i (.i (.o .h))))], 0, true⟩,
    ⟨(some (.i (.i .h))), none, .mov (.s (.o (.o (.i .h)))), 0, true⟩,
    ⟨(some (.i (.o (.i .h)))), none, .ext 0 (.s (.i (.i .h))), 0, true⟩,
    ⟨(some (.o (.i (.i .h)))), none, .ext 1 (.s (.i (.i .h))), 0, true⟩,
    ⟨(some (.o (.o .h))), none, .alloc [(.int .u64 0), (.int .u64 0), (.int .u64 0), (.int .u64 0)], 0, true⟩,
    ⟨none, none, .store 4 (.s (.o (.o .h))) (.s (.i (.o (.i .h)))), 0, true⟩,
    ⟨(some (.i (.o .h))), none, .mov (.s (.o (.i (.i .h)))), 0, true⟩] 0)
   (.seq (.reg [⟨(some (.i (.i (.i .h)))), none, .mov (.s .h), 0, true⟩,
    ⟨(some (.o (.o (.o (.o .h))))), none, .nilc (.s (.i (.i (.i .h)))), 0, true⟩,
    ⟨(some (.i (.o (.o (.o .h))))), none, .lea 8 (.s (.o (.o (.o (.o .h))))), 0, true⟩,
    ⟨(some (.o (.i (.o (.o .h))))), none, .load false 1 (.s (.i (.o (.o (.o .h))))), 0, true⟩,
    ⟨(some (.i (.i (.o (.o .h))))), none, .lenS (.s (.o (.i (.o (.o .h))))), 0, true⟩,
    ⟨(some (.o (.o (.i (.o .h))))), none, .bin .eql (.s (.i (.i (.o (.o .h))))) (.c (.int .i64 32)), 0, true⟩,
    ⟨(some (.i (.o (.i (.o .h))))), none, .mov (.s (.o (.o (.i (.o .h))))), 0, true⟩,
    ⟨(some (.o (.i (.i (.o .h))))), (some ((.i (.o (.i (.o .h)))), false)), .mov (.s .h), 0, true⟩,
    ⟨(some (.i (.i (.i (.o .h))))), (some ((.i (.o (.i (.o .h)))), false)), .nilc (.s (.o (.i (.i (.o .h))))), 0, true⟩,
    ⟨(some (.o (.o (.o (.i .h))))), (some ((.i (.o (.i (.o .h)))), false)), .lea 8 (.s (.i (.i (.i (.o .h))))), 0, true⟩,
    ⟨(some (.i (.o (.o (.i .h))))), (some ((.i (.o (.i (.o .h)))), false)), .load false 1 (.s (.o (.o (.o (.i .h))))), 0, true⟩,
    ⟨(some (.o (.i (.o (.i .h))))), (some ((.i (.o (.i (.o .h)))), false)), .bin .eql (.s (.i (.o (.o (.i .h))))) (.c (.str [])), 0, true⟩,
    ⟨(some (.i (.i (.o (.i .h))))), (some ((.i (.o (.i (.o .h)))), false)), .mov (.s (.o (.i (.o (.i .h))))), 0, true⟩,
    ⟨(some (.o (.o (.i (.i .h))))), (some ((.i (.i (.o (.i .h)))), true)), .mov (.s .h), 0, true⟩,
    ⟨(some (.i (.o (.i (.i .h))))), (some ((.i (.i (.o (.i .h)))), true)), .nilc (.s (.o (.o (.i (.i .h))))), 0, true⟩,
    ⟨(some (.o (.i (.i (.i .h))))), (some ((.i (.i (.o (.i .h)))), true)), .lea 7 (.s (.i (.o (.i (.i .h))))), 0, true⟩,
    ⟨(some (.i (.i (.i (.i .h))))), (some ((.i (.i (.o (.i .h)))), true)), .load false 1 (.s (.o (.i (.i (.i .h))))), 0, true⟩,
    ⟨(some (.o (.o (.o (.o (.o .h)))))), (some ((.i (.i (.o (.i .h)))), true)), .bin .eql (.s (.i (.i (.i (.i .h))))) (.c (.int .i64 0)), 0, true⟩,
    ⟨(some (.i (.o (.o (.o (.o .h)))))), (some ((.i (.o (.i (.o .h)))), false)), .pick (.s (.i (.i (.o (.i .h))))) (.s (.o (.o (.o (.o (.o .h)))))) (.c (.bool false)), 0, true⟩,
    ⟨(some (.o (.i (.o (.o (.o .h)))))), none, .pick (.s (.i (.o (.i (.o .h))))) (.c (.bool true)) (.s (.i (.o (.o (.o (.o .h)))))), 0, true⟩,
    ⟨(some (.o (.i .h))), none, .mov (.s (.o (.i (.o (.o (.o .h)))))), 0, true⟩] 0)
   (.seq (.reg [⟨(some (.i (.i (.o (.o (.o .h)))))), none, .mov (.s (.i (.o .h))), 0, false⟩,
    ⟨(some (.o (.o (.i (.o (.o .h)))))), none, .mov (.s (.i (.i (.o (.o (.o .h)))))), 0, false⟩,
    ⟨(some (.i (.o (.i (.o (.o .h)))))), (some ((.o (.o (.i (.o (.o .h))))), true)), .mov (.s .h), 0, false⟩,
    ⟨(some (.o (.i (.i (.o (.o .h)))))), (some ((.o (.o (.i (.o (.o .h))))), true)), .nilc (.s (.i (.o (.i (.o (.o .h)))))), 0, false⟩,
    ⟨(some (.i (.i (.i (.o (.o .h)))))), (some ((.o (.o (.i (.o (.o .h))))), true)), .lea 3 (.s (.o (.i (.i (.o (.o .h)))))), 0, false⟩,
    ⟨(some (.o (.o (.o (.i (.o .h)))))), (some ((.o (.o (.i (.o (.o .h))))), true)), .load false 1 (.s (.i (.i (.i (.o (.o .h)))))), 0, false⟩,
    ⟨(some (.i (.o (.o (.i (.o .h)))))), (some ((.o (.o (.i (.o (.o .h))))), true)), .call (.i (.o (.i (.i (.o .h))))) [(.s (.o (.o (.o (.i (.o .h)))))), (.c (.int .i64 1))], 0, false⟩,
    ⟨(some (.o (.i (.o (.i (.o .h)))))), none, .pick (.s (.o (.o (.i (.o (.o .h)))))) (.s (.i (.o (.o (.i (.o .h)))))) (.c (.bool false)), 0, false⟩,
    ⟨(some (.i (.i (.o (.i (.o .h)))))), none, .mov (.s (.o (.i (.o (.i (.o .h)))))), 0, false⟩,
    ⟨(some (.o (.o (.i (.i (.o .h)))))), (some ((.i (.i (.o (.i (.o .h))))), true)), .mov (.s .h), 0, false⟩,
    ⟨(some (.i (.o (.i (.i (.o .h)))))), (some ((.i (.i (.o (.i (.o .h))))), true)), .nilc (.s (.o (.o (.i (.i (.o .h)))))), 0, false⟩,
    ⟨(some (.o (.i (.i (.i (.o .h)))))), (some ((.i (.i (.o (.i (.o .h))))), true)), .lea 3 (.s (.i (.o (.i (.i (.o .h)))))), 0, false⟩,
    ⟨(some (.i (.i (.i (.i (.o .h)))))), (some ((.i (.i (.o (.i (.o .h))))), true)), .load false 1 (.s (.o (.i (.i (.i (.o .h)))))), 0, false⟩,
    ⟨(some (.o (.o (.o (.o (.i .h)))))), (some ((.i (.i (.o (.i (.o .h))))), true)), .call (.o (.i (.i (.i (.o .h))))) [(.s (.i (.i (.i (.i (.o .h))))))], 48, false⟩,
    ⟨(some (.i (.o (.o (.o (.i .h)))))), none, .pick (.s (.i (.i (.o (.i (.o .h)))))) (.s (.o (.o (.o (.o (.i .h)))))) (.c (.bool false)), 0, false⟩,
    ⟨(some (.o (.i (.o (.o (.i .h)))))), none, .mov (.s (.i (.o (.o (.o (.i .h)))))), 0, false⟩,
    ⟨(some (.i (.i (.o (.o (.i .h)))))), (some ((.o (.i (.o (.o (.i .h))))), true)), .mov (.s (.o (.i .h))), 0, false⟩,
    ⟨(some (.o (.o (.i (.o (.i .h)))))), none, .pick (.s (.o (.i (.o (.o (.i .h)))))) (.s (.i (.i (.o (.o (.i .h)))))) (.c (.bool false)), 0, false⟩,
    ⟨(some (.i (.o (.i (.o (.i .h)))))), none, .mov (.s (.o (.o (.i (.o (.i .h)))))), 0, false⟩,
    ⟨(some (.o (.i (.i (.o (.i .h)))))), (some ((.i (.o (.i (.o (.i .h))))), true)), .mov (.s .h), 0, false⟩,
    ⟨(some (.i (.i (.i (.o (.i .h)))))), (some ((.i (.o (.i (.o (.i .h))))), true)), .nilc (.s (.o (.i (.i (.o (.i .h)))))), 0, false⟩,
    ⟨(some (.o (.o (.o (.i (.i .h)))))), (some ((.i (.o (.i (.o (.i .h))))), true)), .lea 7 (.s (.i (.i (.i (.o (.i .h)))))), 0, false⟩,
    ⟨(some (.i (.o (.o (.i (.i .h)))))), (some ((.i (.o (.i (.o (.i .h))))), true)), .load false 1 (.s (.o (.o (.o (.i (.i .h)))))), 0, false⟩,
    ⟨(some (.o (.i (.o (.i (.i .h)))))), (some ((.i (.o (.i (.o (.i .h))))), true)), .call (.o (.o (.i (.i .h)))) [(.s (.i (.o (.o (.i (.i .h)))))), (.c (.int .i64 0)), (.c (.int .i64 8))], 48, false⟩,
    ⟨(some (.i (.i (.o (.i (.i .h)))))), none, .pick (.s (.i (.o (.i (.o (.i .h)))))) (.s (.o (.i (.o (.i (.i .h)))))) (.c (.bool false)), 0, false⟩,
    ⟨(some (.o (.o (.i (.i (.i .h)))))), none, .mov (.s (.i (.i (.o (.i (.i .h)))))), 0, false⟩,
    ⟨(some (.i (.o (.i (.i (.i .h)))))), (some ((.o (.o (.i (.i (.i .h))))), true)), .mov (.s .h), 0, false⟩,
    ⟨(some (.o (.i (.i (.i (.i .h)))))), (some ((.o (.o (.i (.i (.i .h))))), true)), .nilc (.s (.i (.o (.i (.i (.i .h)))))), 0, false⟩,
    ⟨(some (.i (.i (.i (.i (.i .h)))))), (some ((.o (.o (.i (.i (.i .h))))), true)), .lea 5 (.s (.o (.i (.i (.i (.i .h)))))), 0, false⟩,
    ⟨(some (.o (.o (.o (.o (.o (.o .h))))))), (some ((.o (.o (.i (.i (.i .h))))), true)), .load false 1 (.s (.i (.i (.i (.i (.i .h)))))), 0, false⟩,
    ⟨(some (.i (.o (.o (.o (.o (.o .h))))))), (some ((.o (.o (.i (.i (.i .h))))), true)), .len (.s (.o (.o (.o (.o (.o (.o .h))))))), 0, false⟩,
    ⟨(some (.o (.i (.o (.o (.o (.o .h))))))), (some ((.o (.o (.i (.i (.i .h))))), true)), .mov (.s .h), 0, false⟩,
    ⟨(some (.i (.i (.o (.o (.o (.o .h))))))), (some ((.o (.o (.i (.i (.i .h))))), true)), .nilc (.s (.o (.i (.o (.o (.o (.o .h))))))), 0, false⟩,
    ⟨(some (.o (.o (.i (.o (.o (.o .h))))))), (some ((.o (.o (.i (.i (.i .h))))), true)), .lea 9 (.s (.i (.i (.o (.o (.o (.o .h))))))), 0, false⟩,
    ⟨(some (.i (.o (.i (.o (.o (.o .h))))))), (some ((.o (.o (.i (.i (.i .h))))), true)), .load false 1 (.s (.o (.o (.i (.o (.o (.o .h))))))), 0, false⟩,
    ⟨(some (.o (.i (.i (.o (.o (.o .h))))))), (some ((.o (.o (.i (.i (.i .h))))), true)), .len (.s (.i (.o (.i (.o (.o (.o .h))))))), 0, false⟩,
    ⟨(some (.i (.i (.i (.o (.o (.o .h))))))), (some ((.o (.o (.i (.i (.i .h))))), true)), .bin .add (.s (.i (.o (.o (.o (.o (.o .h))))))) (.s (.o (.i (.i (.o (.o (.o .h))))))), 0, false⟩,
    ⟨(some (.o (.o (.o (.i (.o (.o .h))))))), (some ((.o (.o (.i (.i (.i .h))))), true)), .bin .eql (.s (.i (.i (.i (.o (.o (.o .h))))))) (.c (.int .i64 0)), 0, false⟩,
    ⟨(some (.i (.o (.o (.i (.o (.o .h))))))), none, .pick (.s (.o (.o (.i (.i (.i .h)))))) (.s (.o (.o (.o (.i (.o (.o .h))))))) (.c (.bool false)), 0, false⟩,
    ⟨(some (.o (.i (.o (.i (.o (.o .h))))))), none, .mov (.s (.i (.o (.o (.i (.o (.o .h))))))), 0, false⟩,
    ⟨(some (.i (.i (.o (.i (.o (.o .h))))))), (some ((.o (.i (.o (.i (.o (.o .h)))))), true)), .mov (.s .h), 0, false⟩,
    ⟨(some (.o (.o (.i (.i (.o (.o .h))))))), (some ((.o (.i (.o (.i (.o (.o .h)))))), true)), .nilc (.s (.i (.i (.o (.i (.o (.o .h))))))), 0, false⟩,
    ⟨(some (.i (.o (.i (.i (.o (.o .h))))))), (some ((.o (.i (.o (.i (.o (.o .h)))))), true)), .lea 6 (.s (.o (.o (.i (.i (.o (.o .h))))))), 0, false⟩,
    ⟨(some (.o (.i (.i (.i (.o (.o .h))))))), (some ((.o (.i (.o (.i (.o (.o .h)))))), true)), .load false 1 (.s (.i (.o (.i (.i (.o (.o .h))))))), 0, false⟩,
    ⟨(some (.i (.i (.i (.i (.o (.o .h))))))), (some ((.o (.i (.o (.i (.o (.o .h)))))), true)), .bin .eql (.s (.o (.i (.i (.i (.o (.o .h))))))) (.c (.str [])), 0, false⟩,
    ⟨(some (.o (.o (.o (.o (.i (.o .h))))))), none, .pick (.s (.o (.i (.o (.i (.o (.o .h))))))) (.s (.i (.i (.i (.i (.o (.o .h))))))) (.c (.bool false)), 0, false⟩,
    ⟨(some (.i .h)), none, .mov (.s (.o (.o (.o (.o (.i (.o .h))))))), 0, false⟩] 48)
   .ret)))) }

/-- halberd/hello.psk -/
noncomputable def d48 : Go.AE.Fd := { np := 2, res := [.tmp (.i (.o .h))], code :=
   (.seq (.reg [⟨(some (.o (.o .h))), none, .box (.s (.o .h)), 0, true⟩,
    ⟨(some (.i (.o .h))), none, .mov (.c (.bool false)), 0, true⟩] 0)
   (.seq (.reg [⟨(some (.o (.i (.o .h)))), none, .lea 2 (.s (.o (.o .h))), 0, true⟩,
    ⟨(some (.i (.i (.o .h)))), none, .load false 1 (.s (.o (.i (.o .h)))), 0, true⟩,
    ⟨(some (.o (.o (.i .h)))), none, .call (.i (.i (.o (.i (.o .h))))) [(.s (.i (.i (.o .h))))], 0, true⟩,
    ⟨(some (.i (.o (.o .h)))), none, .mov (.s (.o (.o (.i .h)))), 0, true⟩,
    ⟨(some (.i (.o (.i .h)))), none, .ext 0 (.s (.i (.o (.o .h)))), 0, true⟩,
    ⟨(some (.o (.i (.i .h)))), none, .ext 1 (.s (.i (.o (.o .h)))), 0, true⟩,
    ⟨(some (.i (.i (.i .h)))), none, .ext 2 (.s (.i (.o (.o .h)))), 0, true⟩,
    ⟨(some (.o (.i .h))), none, .mov (.s (.i (.o (.i .h)))), 0, true⟩,
    ⟨(some (.i (.i .h))), none, .mov (.s (.o (.i (.i .h)))), 0, true⟩,
    ⟨(some (.o (.o (.o .h)))), none, .mov (.s (.i (.i (.i .h)))), 0, true⟩] 0)
   (.seq (.reg [⟨(some (.o (.o (.o (.o .h))))), none, .mov (.s .h), 0, false⟩,
    ⟨(some (.i (.o (.o (.o .h))))), none, .nilc (.s (.o (.o (.o (.o .h))))), 0, false⟩,
    ⟨(some (.o (.i (.o (.o .h))))), none, .lea 1 (.s (.i (.o (.o (.o .h))))), 0, false⟩,
    ⟨(some (.i (.i (.o (.o .h))))), none, .load false 1 (.s (.o (.i (.o (.o .h))))), 0, false⟩,
    ⟨(some (.o (.o (.i (.o .h))))), none, .lea 2 (.s (.o (.o .h))), 0, false⟩,
    ⟨(some (.i (.o (.i (.o .h))))), none, .load false 1 (.s (.o (.o (.i (.o .h))))), 0, false⟩,
    ⟨(some (.o (.i (.i (.o .h))))), none, .call (.i (.o (.i (.o (.o .h))))) [(.s (.i (.i (.o (.o .h))))), (.s (.i (.o (.i (.o .h)))))], 0, false⟩,
    ⟨(some (.i (.i (.i (.o .h))))), none, .mov (.s (.o (.i (.i (.o .h))))), 0, false⟩,
    ⟨(some (.o (.o (.o (.i .h))))), (some ((.i (.i (.i (.o .h)))), true)), .lea 1 (.s (.o (.o .h))), 0, false⟩,
    ⟨(some (.i (.o (.o (.i .h))))), (some ((.i (.i (.i (.o .h)))), true)), .load false 1 (.s (.o (.o (.o (.i .h))))), 0, false⟩,
    ⟨(some (.o (.i (.o (.i .h))))), (some ((.i (.i (.i (.o .h)))), true)), .lenS (.s (.i (.o (.o (.i .h))))), 0, false⟩,
    ⟨(some (.i (.i (.o (.i .h))))), (some ((.i (.i (.i (.o .h)))), true)), .mov (.s (.i (.i .h))), 0, false⟩,
    ⟨(some (.o (.o (.i (.i .h))))), (some ((.i (.i (.i (.o .h)))), true)), .bin .quo (.s (.i (.i (.o (.i .h))))) (.c (.int .i64 8)), 0, false⟩,
    ⟨(some (.i (.o (.i (.i .h))))), (some ((.i (.i (.i (.o .h)))), true)), .bin .eql (.s (.o (.i (.o (.i .h))))) (.s (.o (.o (.i (.i .h))))), 0, false⟩,
    ⟨(some (.o (.i (.i (.i .h))))), none, .pick (.s (.i (.i (.i (.o .h))))) (.s (.i (.o (.i (.i .h))))) (.c (.bool false)), 0, false⟩,
    ⟨(some (.i (.i (.i (.i .h))))), none, .mov (.s (.o (.i (.i (.i .h))))), 0, false⟩,
    ⟨(some (.o (.o (.o (.o (.o .h)))))), (some ((.i (.i (.i (.i .h)))), true)), .lea 0 (.s (.o (.o .h))), 0, false⟩,
    ⟨(some (.i (.o (.o (.o (.o .h)))))), (some ((.i (.i (.i (.i .h)))), true)), .load false 1 (.s (.o (.o (.o (.o (.o .h)))))), 0, false⟩,
    ⟨(some (.o (.i (.o (.o (.o .h)))))), (some ((.i (.i (.i (.i .h)))), true)), .lenS (.s (.i (.o (.o (.o (.o .h)))))), 0, false⟩,
    ⟨(some (.i (.i (.o (.o (.o .h)))))), (some ((.i (.i (.i (.i .h)))), true)), .call (.o (.o (.i (.i .h)))) [(.s (.o (.i (.o (.o (.o .h)))))), (.c (.int .i64 1)), (.c (.int .i64 4096))], 0, false⟩,
    ⟨(some (.o (.o (.i (.o (.o .h)))))), none, .pick (.s (.i (.i (.i (.i .h))))) (.s (.i (.i (.o (.o (.o .h)))))) (.c (.bool false)), 0, false⟩,
    ⟨(some (.i (.o (.i (.o (.o .h)))))), none, .mov (.s (.o (.o (.i (.o (.o .h)))))), 0, false⟩,
    ⟨(some (.o (.i (.i (.o (.o .h)))))), (some ((.i (.o (.i (.o (.o .h))))), true)), .lea 3 (.s (.o (.o .h))), 0, false⟩,
    ⟨(some (.i (.i (.i (.o (.o .h)))))), (some ((.i (.o (.i (.o (.o .h))))), true)), .load false 1 (.s (.o (.i (.i (.o (.o .h)))))), 0, false⟩,
    ⟨(some (.o (.o (.o (.i (.o .h)))))), (some ((.i (.o (.i (.o (.o .h))))), true)), .call (.o (.o (.i (.i .h)))) [(.s (.i (.i (.i (.o (.o .h)))))), (.c (.int .i64 0)), (.c (.int .i64 4294967295))], 0, false⟩,
    ⟨(some (.i (.o (.o (.i (.o .h)))))), none, .pick (.s (.i (.o (.i (.o (.o .h)))))) (.s (.o (.o (.o (.i (.o .h)))))) (.c (.bool false)), 0, false⟩,
    ⟨(some (.o (.i (.o (.i (.o .h)))))), none, .mov (.s (.i (.o (.o (.i (.o .h)))))), 0, false⟩,
    ⟨(some (.i (.i (.o (.i (.o .h)))))), (some ((.o (.i (.o (.i (.o .h))))), true)), .lea 4 (.s (.o (.o .h))), 0, false⟩,
    ⟨(some (.o (.o (.i (.i (.o .h)))))), (some ((.o (.i (.o (.i (.o .h))))), true)), .load false 1 (.s (.i (.i (.o (.i (.o .h)))))), 0, false⟩,
    ⟨(some (.i (.o (.i (.i (.o .h)))))), (some ((.o (.i (.o (.i (.o .h))))), true)), .call (.o (.o (.i (.i .h)))) [(.s (.o (.o (.i (.i (.o .h)))))), (.c (.int .i64 0)), (.c (.int .i64 4294967295))], 0, false⟩,
    ⟨(some (.o (.i (.i (.i (.o .h)))))), none, .pick (.s (.o (.i (.o (.i (.o .h)))))) (.s (.i (.o (.i (.i (.o .h)))))) (.c (.bool false)), 0, false⟩,
    ⟨(some (.i (.i (.i (.i (.o .h)))))), none, .mov (.s (.o (.i (.i (.i (.o .h)))))), 0, false⟩,
    ⟨(some (.o (.o (.o (.o (.i .h)))))), (some ((.i (.i (.i (.i (.o .h))))), true)), .lea 5 (.s (.o (.o .h))), 0, false⟩,
    ⟨(some (.i (.o (.o (.o (.i .h)))))), (some ((.i (.i (.i (.i (.o .h))))), true)), .load false 1 (.s (.o (.o (.o (.o (.i .h)))))), 0, false⟩,
    ⟨(some (.o (.i (.o (.o (.i .h)))))), (some ((.i (.i (.i (.i (.o .h))))), true)), .call (.o (.o (.i (.i .h)))) [(.s (.i (.o (.o (.o (.i .h)))))), (.c (.int .i64 0)), (.c (.int .i64 604800))], 0, false⟩,
    ⟨(some (.i (.i (.o (.o (.i .h)))))), none, .pick (.s (.i (.i (.i (.i (.o .h)))))) (.s (.o (.i (.o (.o (.i .h)))))) (.c (.bool false)), 0, false⟩,
    ⟨(some (.i (.o .h))), none, .mov (.s (.i (.i (.o (.o (.i .h)))))), 0, false⟩] 0)
   .ret))) }

/-- halberd/hello.client$1 -/
noncomputable def d47 : Go.AE.Fd := { np := 2, res := [.tmp (.o (.o .h))], code :=
   (.seq (.reg [⟨(some (.i .h)), none, .box (.s .h), 0, true⟩,
    ⟨(some (.o (.o .h))), none, .mov (.c (.bool false)), 0, true⟩] 0)
   (.seq (.reg [⟨(some (.i (.o .h))), none, .load false 1 (.s (.o .h)), 0, true⟩,
    ⟨(some (.o (.i .h))), none, .load true 6 (.s (.i .h)), 0, true⟩,
    ⟨(some (.i (.i .h))), none, .call (.i (.o (.o (.o (.i .h))))) [(.s (.i (.o .h))), (.s (.o (.i .h)))], 0, true⟩,
    ⟨(some (.o (.o (.o .h)))), none, .un .not (.s (.i (.i .h))), 0, true⟩,
    ⟨(some (.o (.o .h))), none, .mov (.s (.o (.o (.o .h)))), 0, true⟩] 0)
   .ret)) }

/-- slices.IndexFunc[[]halberd/api.Psk,halberd/api.Psk] -/
noncomputable def d61 : Go.AE.Fd := { np := 2, res := [.tmp (.i (.o .h))], code :=
   (.seq (.reg [⟨(some (.i (.o .h))), none, .mov (.c (.int .i64 0)), 0, true⟩] 0)
   (.seq (.seq (.reg [⟨(some (.i (.i .h))), none, .mov (.s .h), 0, true⟩,
    ⟨(some (.o (.o (.o .h)))), none, .len (.s (.i (.i .h))), 0, true⟩,
    ⟨(some (.i (.o (.o .h)))), none, .mov (.c (.int .i64 0)), 0, true⟩] 0)
   (.block 0 (.loop (.seq (.reg [⟨(some (.o (.i (.o .h)))), none, .bin .lss (.s (.i (.o (.o .h)))) (.s (.o (.o (.o .h)))), 0, true⟩] 0)
   (.seq (.cond (.s (.o (.i (.o .h))))
   .skip
   (.exit 0))
   (.seq (.block 1 (.seq (.reg [⟨(some (.i (.i (.o .h)))), none, .mov (.s (.i (.o (.o .h)))), 0, true⟩,
    ⟨(some (.o (.i .h))), none, .mov (.s (.i (.i (.o .h)))), 0, true⟩] 0)
   (.seq (.reg [⟨(some (.o (.o (.i .h)))), none, .mov (.s (.o .h)), 0, true⟩,
    ⟨(some (.i (.o (.i .h)))), none, .mov (.s .h), 0, true⟩,
    ⟨(some (.o (.i (.i .h)))), none, .mov (.s (.o (.i .h))), 0, true⟩,
    ⟨(some (.i (.i (.i .h)))), none, .ixS 6 (.s (.i (.o (.i .h)))) (.s (.o (.i (.i .h)))), 0, true⟩,
    ⟨(some (.o (.o (.o (.o .h))))), none, .load true 6 (.s (.i (.i (.i .h)))), 0, true⟩,
    ⟨(some (.i (.o (.o (.o .h))))), none, .callv (.s (.o (.o (.i .h)))) [(.s (.o (.o (.o (.o .h)))))], 0, true⟩] 0)
   (.cond (.s (.i (.o (.o (.o .h)))))
   (.seq (.reg [⟨(some (.o (.i (.o (.o .h))))), none, .mov (.s (.o (.i .h))), 0, true⟩,
    ⟨(some (.i (.o .h))), none, .mov (.s (.o (.i (.o (.o .h))))), 0, true⟩] 0)
   .ret)
   .skip))))
   (.reg [⟨(some (.i (.i (.o (.o .h))))), none, .bin .add (.s (.i (.o (.o .h)))) (.c (.int .i64 1)), 0, true⟩,
    ⟨(some (.i (.o (.o .h)))), none, .mov (.s (.i (.i (.o (.o .h))))), 0, true⟩] 0)))))))
   (.seq (.reg [⟨(some (.i (.o .h))), none, .mov (.c (.int .i64 (-1))), 0, true⟩] 0)
   .ret))) }

/-- slices.ContainsFunc[[]halberd/api.Psk,halberd/api.Psk] -/
noncomputable def d46 : Go.AE.Fd := { np := 2, res := [.tmp (.i (.o .h))], code :=
   (.seq (.reg [⟨(some (.i (.o .h))), none, .mov (.c (.bool false)), 0, true⟩] 0)
   (.seq (.reg [⟨(some (.o (.i .h))), none, .mov (.s .h), 0, true⟩,
    ⟨(some (.i (.i .h))), none, .mov (.s (.o .h)), 0, true⟩,
    ⟨(some (.o (.o (.o .h)))), none, .call (.o (.i (.i (.i (.i .h))))) [(.s (.o (.i .h))), (.s (.i (.i .h)))], 0, true⟩,
    ⟨(some (.i (.o (.o .h)))), none, .bin .geq (.s (.o (.o (.o .h)))) (.c (.int .i64 0)), 0, true⟩,
    ⟨(some (.i (.o .h))), none, .mov (.s (.i (.o (.o .h)))), 0, true⟩] 0)
   .ret)) }

/-- halberd/hello.client -/
noncomputable def d29 : Go.AE.Fd := { np := 1, res := [.tmp (.i .h)], code :=
   (.seq (.reg [⟨(some (.o .h)), none, .box (.s .h), 0, true⟩,
    ⟨(some (.i .h)), none, .mov (.c (.bool false)), 0, true⟩] 0)
   (.seq (.seq (.reg [⟨(some (.o (.o .h))), none, .load false 1 (.s (.o .h)), 0, true⟩,
    ⟨(some (.i (.o .h))), none, .nilc (.s (.o (.o .h))), 0, true⟩,
    ⟨(some (.o (.i .h))), none, .lea 3 (.s (.i (.o .h))), 0, true⟩,
    ⟨(some (.i (.i .h))), none, .load false 1 (.s (.o (.i .h))), 0, true⟩,
    ⟨(some (.o (.o (.o .h)))), none, .len (.s (.i (.i .h))), 0, true⟩,
    ⟨(some (.i (.o (.o .h)))), none, .bin .neq (.s (.o (.o (.o .h)))) (.c (.int .i64 0)), 0, true⟩,
    ⟨(some (.o (.i (.o .h)))), none, .mov (.s (.i (.o (.o .h)))), 0, true⟩,
    ⟨(some (.i (.i (.o .h)))), (some ((.o (.i (.o .h))), false)), .load false 1 (.s (.o .h)), 0, true⟩,
    ⟨(some (.o (.o (.i .h)))), (some ((.o (.i (.o .h))), false)), .nilc (.s (.i (.i (.o .h)))), 0, true⟩,
    ⟨(some (.i (.o (.i .h)))), (some ((.o (.i (.o .h))), false)), .lea 4 (.s (.o (.o (.i .h)))), 0, true⟩,
    ⟨(some (.o (.i (.i .h)))), (some ((.o (.i (.o .h))), false)), .load false 1 (.s (.i (.o (.i .h)))), 0, true⟩,
    ⟨(some (.i (.i (.i .h)))), (some ((.o (.i (.o .h))), false)), .bin .neq (.s (.o (.i (.i .h)))) (.c (.str [])), 0, true⟩,
    ⟨(some (.o (.o (.o (.o .h))))), none, .pick (.s (.o (.i (.o .h)))) (.c (.bool true)) (.s (.i (.i (.i .h)))), 0, true⟩,
    ⟨(some (.i (.o (.o (.o .h))))), none, .mov (.s (.o (.o (.o (.o .h))))), 0, true⟩,
    ⟨(some (.o (.i (.o (.o .h))))), (some ((.i (.o (.o (.o .h)))), false)), .load false 1 (.s (.o .h)), 0, true⟩,
    ⟨(some (.i (.i (.o (.o .h))))), (some ((.i (.o (.o (.o .h)))), false)), .nilc (.s (.o (.i (.o (.o .h))))), 0, true⟩,
    ⟨(some (.o (.o (.i (.o .h))))), (some ((.i (.o (.o (.o .h)))), false)), .lea 8 (.s (.i (.i (.o (.o .h))))), 0, true⟩,
    ⟨(some (.i (.o (.i (.o .h))))), (some ((.i (.o (.o (.o .h)))), false)), .load false 1 (.s (.o (.o (.i (.o .h))))), 0, true⟩,
    ⟨(some (.o (.i (.i (.o .h))))), (some ((.i (.o (.o (.o .h)))), false)), .bin .neq (.s (.i (.o (.i (.o .h))))) (.c (.str [])), 0, true⟩,
    ⟨(some (.i (.i (.i (.o .h))))), none, .pick (.s (.i (.o (.o (.o .h))))) (.c (.bool true)) (.s (.o (.i (.i (.o .h))))), 0, true⟩,
    ⟨(some (.o (.o (.o (.i .h))))), none, .mov (.s (.i (.i (.i (.o .h))))), 0, true⟩,
    ⟨(some (.i (.o (.o (.i .h))))), (some ((.o (.o (.o (.i .h)))), false)), .load false 1 (.s (.o .h)), 0, true⟩,
    ⟨(some (.o (.i (.o (.i .h))))), (some ((.o (.o (.o (.i .h)))), false)), .nilc (.s (.i (.o (.o (.i .h))))), 0, true⟩,
    ⟨(some (.i (.i (.o (.i .h))))), (some ((.o (.o (.o (.i .h)))), false)), .lea 7 (.s (.o (.i (.o (.i .h))))), 0, true⟩,
    ⟨(some (.o (.o (.i (.i .h))))), (some ((.o (.o (.o (.i .h)))), false)), .load false 1 (.s (.i (.i (.o (.i .h))))), 0, true⟩,
    ⟨(some (.i (.o (.i (.i .h))))), (some ((.o (.o (.o (.i .h)))), false)), .bin .neq (.s (.o (.o (.i (.i .h))))) (.c (.int .i64 0)), 0, true⟩,
    ⟨(some (.o (.i (.i (.i .h))))), none, .pick (.s (.o (.o (.o (.i .h))))) (.c (.bool true)) (.s (.i (.o (.i (.i .h))))), 0, true⟩,
    ⟨(some (.i (.i (.i (.i .h))))), none, .mov (.s (.o (.i (.i (.i .h))))), 0, true⟩,
    ⟨(some (.o (.o (.o (.o (.o .h)))))), (some ((.i (.i (.i (.i .h)))), false)), .load false 1 (.s (.o .h)), 0, true⟩,
    ⟨(some (.i (.o (.o (.o (.o .h)))))), (some ((.i (.i (.i (.i .h)))), false)), .nilc (.s (.o (.o (.o (.o (.o .h)))))), 0, true⟩,
    ⟨(some (.o (.i (.o (.o (.o .h)))))), (some ((.i (.i (.i (.i .h)))), false)), .lea 9 (.s (.i (.o (.o (.o (.o .h)))))), 0, true⟩,
    ⟨(some (.i (.i (.o (.o (.o .h)))))), (some ((.i (.i (.i (.i .h)))), false)), .load false 1 (.s (.o (.i (.o (.o (.o .h)))))), 0, true⟩,
    ⟨(some (.o (.o (.i (.o (.o .h)))))), (some ((.i (.i (.i (.i .h)))), false)), .len (.s (.i (.i (.o (.o (.o .h)))))), 0, true⟩,
    ⟨(some (.i (.o (.i (.o (.o .h)))))), (some ((.i (.i (.i (.i .h)))), false)), .bin .gtr (.s (.o (.o (.i (.o (.o .h)))))) (.c (.int .i64 1)), 0, true⟩,
    ⟨(some (.o (.i (.i (.o (.o .h)))))), none, .pick (.s (.i (.i (.i (.i .h))))) (.c (.bool true)) (.s (.i (.o (.i (.o (.o .h)))))), 0, true⟩] 0)
   (.cond (.s (.o (.i (.i (.o (.o .h))))))
   (.seq (.reg [⟨(some (.i .h)), none, .mov (.c (.bool false)), 0, true⟩] 0)
   .ret)
   .skip))
   (.seq (.reg [⟨(some (.i (.i (.i (.o (.o .h)))))), none, .load false 1 (.s (.o .h)), 0, true⟩,
    ⟨(some (.o (.o (.o (.i (.o .h)))))), none, .nilc (.s (.i (.i (.i (.o (.o .h)))))), 0, true⟩,
    ⟨(some (.i (.o (.o (.i (.o .h)))))), none, .lea 5 (.s (.o (.o (.o (.i (.o .h)))))), 0, true⟩,
    ⟨(some (.o (.i (.o (.i (.o .h)))))), none, .load false 1 (.s (.i (.o (.o (.i (.o .h)))))), 0, true⟩,
    ⟨(some (.i (.i (.o (.i (.o .h)))))), none, .call (.i (.o (.i (.i (.o .h))))) [(.s (.o (.i (.o (.i (.o .h)))))), (.c (.int .i64 0))], 0, true⟩,
    ⟨(some (.o (.o (.i (.i (.o .h)))))), none, .mov (.s (.i (.i (.o (.i (.o .h)))))), 0, true⟩,
    ⟨(some (.i (.o (.i (.i (.o .h)))))), (some ((.o (.o (.i (.i (.o .h))))), true)), .load false 1 (.s (.o .h)), 0, true⟩,
    ⟨(some (.o (.i (.i (.i (.o .h)))))), (some ((.o (.o (.i (.i (.o .h))))), true)), .nilc (.s (.i (.o (.i (.i (.o .h)))))), 0, true⟩,
    ⟨(some (.i (.i (.i (.i (.o .h)))))), (some ((.o (.o (.i (.i (.o .h))))), true)), .lea 6 (.s (.o (.i (.i (.i (.o .h)))))), 0, true⟩,
    ⟨(some (.o (.o (.o (.o (.i .h)))))), (some ((.o (.o (.i (.i (.o .h))))), true)), .load false 1 (.s (.i (.i (.i (.i (.o .h)))))), 0, true⟩,
    ⟨(some (.i (.o (.o (.o (.i .h)))))), (some ((.o (.o (.i (.i (.o .h))))), true)), .lenS (.s (.o (.o (.o (.o (.i .h)))))), 0, true⟩,
    ⟨(some (.o (.i (.o (.o (.i .h)))))), (some ((.o (.o (.i (.i (.o .h))))), true)), .bin .leq (.s (.i (.o (.o (.o (.i .h)))))) (.c (.int .i64 64)), 0, true⟩,
    ⟨(some (.i (.i (.o (.o (.i .h)))))), none, .pick (.s (.o (.o (.i (.i (.o .h)))))) (.s (.o (.i (.o (.o (.i .h)))))) (.c (.bool false)), 0, true⟩,
    ⟨(some (.o (.o (.i (.o (.i .h)))))), none, .mov (.s (.i (.i (.o (.o (.i .h)))))), 0, true⟩,
    ⟨(some (.i (.o (.i (.o (.i .h)))))), (some ((.o (.o (.i (.o (.i .h))))), true)), .load false 1 (.s (.o .h)), 0, true⟩,
    ⟨(some (.o (.i (.i (.o (.i .h)))))), (some ((.o (.o (.i (.o (.i .h))))), true)), .nilc (.s (.i (.o (.i (.o (.i .h)))))), 0, true⟩,
    ⟨(some (.i (.i (.i (.o (.i .h)))))), (some ((.o (.o (.i (.o (.i .h))))), true)), .lea 9 (.s (.o (.i (.i (.o (.i .h)))))), 0, true⟩,
    ⟨(some (.o (.o (.o (.i (.i .h)))))), (some ((.o (.o (.i (.o (.i .h))))), true)), .load false 1 (.s (.i (.i (.i (.o (.i .h)))))), 0, true⟩,
    ⟨(some (.i (.o (.o (.i (.i .h)))))), (some ((.o (.o (.i (.o (.i .h))))), true)), .mkfn (.o (.o (.o (.o (.i .h))))) [(.s (.o .h))], 0, true⟩,
    ⟨(some (.o (.i (.o (.i (.i .h)))))), (some ((.o (.o (.i (.o (.i .h))))), true)), .call (.i (.i (.i (.i (.o .h))))) [(.s (.o (.o (.o (.i (.i .h)))))), (.s (.i (.o (.o (.i (.i .h))))))], 0, true⟩,
    ⟨(some (.i (.i (.o (.i (.i .h)))))), (some ((.o (.o (.i (.o (.i .h))))), true)), .un .not (.s (.o (.i (.o (.i (.i .h)))))), 0, true⟩,
    ⟨(some (.o (.o (.i (.i (.i .h)))))), none, .pick (.s (.o (.o (.i (.o (.i .h)))))) (.s (.i (.i (.o (.i (.i .h)))))) (.c (.bool false)), 0, true⟩,
    ⟨(some (.i .h)), none, .mov (.s (.o (.o (.i (.i (.i .h)))))), 0, true⟩] 0)
   .ret))) }

/-- halberd/hello.May -/
noncomputable def d11 : Go.AE.Fd := { np := 1, res := [.tmp (.i .h)], code :=
   (.seq (.reg [⟨(some (.o .h)), none, .box (.s .h), 0, true⟩,
    ⟨(some (.i .h)), none, .mov (.c (.bool false)), 0, true⟩] 0)
   (.seq (.seq (.reg [⟨(some (.o (.o .h))), none, .lea 1 (.s (.o .h)), 0, true⟩,
    ⟨(some (.i (.o .h))), none, .load false 1 (.s (.o (.o .h))), 0, true⟩,
    ⟨(some (.o (.i .h))), none, .call (.i (.o (.o (.i .h)))) [(.s (.i (.o .h))), (.c (.int .i64 3)), (.c (.fn (.o (.i (.o (.i .h)))) []))], 0, true⟩,
    ⟨(some (.i (.i .h))), none, .un .not (.s (.o (.i .h))), 0, true⟩,
    ⟨(some (.o (.o (.o .h)))), none, .mov (.s (.i (.i .h))), 0, true⟩,
    ⟨(some (.i (.o (.o .h)))), (some ((.o (.o (.o .h))), false)), .lea 2 (.s (.o .h)), 0, true⟩,
    ⟨(some (.o (.i (.o .h)))), (some ((.o (.o (.o .h))), false)), .load false 1 (.s (.i (.o (.o .h)))), 0, true⟩,
    ⟨(some (.i (.i (.o .h)))), (some ((.o (.o (.o .h))), false)), .call (.i (.o (.o (.i .h)))) [(.s (.o (.i (.o .h)))), (.c (.int .i64 2)), (.c (.fn (.i (.i (.o (.i .h)))) []))], 0, true⟩,
    ⟨(some (.o (.o (.i .h)))), (some ((.o (.o (.o .h))), false)), .un .not (.s (.i (.i (.o .h)))), 0, true⟩,
    ⟨(some (.i (.o (.i .h)))), none, .pick (.s (.o (.o (.o .h)))) (.c (.bool true)) (.s (.o (.o (.i .h)))), 0, true⟩,
    ⟨(some (.o (.i (.i .h)))), none, .mov (.s (.i (.o (.i .h)))), 0, true⟩,
    ⟨(some (.i (.i (.i .h)))), (some ((.o (.i (.i .h))), false)), .lea 11 (.s (.o .h)), 0, true⟩,
    ⟨(some (.o (.o (.o (.o .h))))), (some ((.o (.i (.i .h))), false)), .load false 1 (.s (.i (.i (.i .h)))), 0, true⟩,
    ⟨(some (.i (.o (.o (.o .h))))), (some ((.o (.i (.i .h))), false)), .call (.o (.o (.i (.i .h)))) [(.s (.o (.o (.o (.o .h))))), (.c (.int .i64 0)), (.c (.int .i64 4294967295))], 0, true⟩,
    ⟨(some (.o (.i (.o (.o .h))))), (some ((.o (.i (.i .h))), false)), .un .not (.s (.i (.o (.o (.o .h))))), 0, true⟩,
    ⟨(some (.i (.i (.o (.o .h))))), none, .pick (.s (.o (.i (.i .h)))) (.c (.bool true)) (.s (.o (.i (.o (.o .h))))), 0, true⟩,
    ⟨(some (.o (.o (.i (.o .h))))), none, .mov (.s (.i (.i (.o (.o .h))))), 0, true⟩,
    ⟨(some (.i (.o (.i (.o .h))))), (some ((.o (.o (.i (.o .h)))), false)), .lea 12 (.s (.o .h)), 0, true⟩,
    ⟨(some (.o (.i (.i (.o .h))))), (some ((.o (.o (.i (.o .h)))), false)), .load false 1 (.s (.i (.o (.i (.o .h))))), 0, true⟩,
    ⟨(some (.i (.i (.i (.o .h))))), (some ((.o (.o (.i (.o .h)))), false)), .call (.o (.o (.i (.i .h)))) [(.s (.o (.i (.i (.o .h))))), (.c (.int .i64 0)), (.c (.int .i64 16384))], 0, true⟩,
    ⟨(some (.o (.o (.o (.i .h))))), (some ((.o (.o (.i (.o .h)))), false)), .un .not (.s (.i (.i (.i (.o .h))))), 0, true⟩,
    ⟨(some (.i (.o (.o (.i .h))))), none, .pick (.s (.o (.o (.i (.o .h))))) (.c (.bool true)) (.s (.o (.o (.o (.i .h))))), 0, true⟩,
    ⟨(some (.o (.i (.o (.i .h))))), none, .mov (.s (.i (.o (.o (.i .h))))), 0, true⟩,
    ⟨(some (.i (.i (.o (.i .h))))), (some ((.o (.i (.o (.i .h)))), false)), .lea 13 (.s (.o .h)), 0, true⟩,
    ⟨(some (.o (.o (.i (.i .h))))), (some ((.o (.i (.o (.i .h)))), false)), .load false 1 (.s (.i (.i (.o (.i .h))))), 0, true⟩,
    ⟨(some (.i (.o (.i (.i .h))))), (some ((.o (.i (.o (.i .h)))), false)), .call (.o (.o (.i (.i .h)))) [(.s (.o (.o (.i (.i .h))))), (.c (.int .i64 4)), (.c (.int .i64 16777216))], 0, true⟩,
    ⟨(some (.o (.i (.i (.i .h))))), (some ((.o (.i (.o (.i .h)))), false)), .un .not (.s (.i (.o (.i (.i .h))))), 0, true⟩,
    ⟨(some (.i (.i (.i (.i .h))))), none, .pick (.s (.o (.i (.o (.i .h))))) (.c (.bool true)) (.s (.o (.i (.i (.i .h))))), 0, true⟩,
    ⟨(some (.o (.o (.o (.o (.o .h)))))), none, .mov (.s (.i (.i (.i (.i .h))))), 0, true⟩,
    ⟨(some (.i (.o (.o (.o (.o .h)))))), (some ((.o (.o (.o (.o (.o .h))))), false)), .lea 14 (.s (.o .h)), 0, true⟩,
    ⟨(some (.o (.i (.o (.o (.o .h)))))), (some ((.o (.o (.o (.o (.o .h))))), false)), .load false 1 (.s (.i (.o (.o (.o (.o .h)))))), 0, true⟩,
    ⟨(some (.i (.i (.o (.o (.o .h)))))), (some ((.o (.o (.o (.o (.o .h))))), false)), .call (.o (.o (.i (.i .h)))) [(.s (.o (.i (.o (.o (.o .h)))))), (.c (.int .i64 33290)), (.c (.int .i64 262144))], 0, true⟩,
    ⟨(some (.o (.o (.i (.o (.o .h)))))), (some ((.o (.o (.o (.o (.o .h))))), false)), .un .not (.s (.i (.i (.o (.o (.o .h)))))), 0, true⟩,
    ⟨(some (.i (.o (.i (.o (.o .h)))))), none, .pick (.s (.o (.o (.o (.o (.o .h)))))) (.c (.bool true)) (.s (.o (.o (.i (.o (.o .h)))))), 0, true⟩,
    ⟨(some (.o (.i (.i (.o (.o .h)))))), none, .mov (.s (.i (.o (.i (.o (.o .h)))))), 0, true⟩,
    ⟨(some (.i (.i (.i (.o (.o .h)))))), (some ((.o (.i (.i (.o (.o .h))))), false)), .lea 10 (.s (.o .h)), 0, true⟩,
    ⟨(some (.o (.o (.o (.i (.o .h)))))), (some ((.o (.i (.i (.o (.o .h))))), false)), .load false 1 (.s (.i (.i (.i (.o (.o .h)))))), 0, true⟩,
    ⟨(some (.i (.o (.o (.i (.o .h)))))), (some ((.o (.i (.i (.o (.o .h))))), false)), .lenS (.s (.o (.o (.o (.i (.o .h)))))), 0, true⟩,
    ⟨(some (.o (.i (.o (.i (.o .h)))))), (some ((.o (.i (.i (.o (.o .h))))), false)), .bin .gtr (.s (.i (.o (.o (.i (.o .h)))))) (.c (.int .i64 65536)), 0, true⟩,
    ⟨(some (.i (.i (.o (.i (.o .h)))))), none, .pick (.s (.o (.i (.i (.o (.o .h)))))) (.c (.bool true)) (.s (.o (.i (.o (.i (.o .h)))))), 0, true⟩] 0)
   (.cond (.s (.i (.i (.o (.i (.o .h))))))
   (.seq (.reg [⟨(some (.i .h)), none, .mov (.c (.bool false)), 0, true⟩] 0)
   .ret)
   .skip))
   (.seq (.seq (.reg [⟨(some (.o (.o (.i (.i (.o .h)))))), none, .lea 0 (.s (.o .h)), 0, true⟩,
    ⟨(some (.i (.o (.i (.i (.o .h)))))), none, .load false 1 (.s (.o (.o (.i (.i (.o .h)))))), 0, true⟩] 0)
   (.cond (.s (.i (.o (.i (.i (.o .h))))))
   (.seq (.reg [⟨(some (.o (.i (.i (.i (.o .h)))))), none, .call (.i (.o (.i (.i .h)))) [(.s (.o .h))], 0, true⟩,
    ⟨(some (.i .h)), none, .mov (.s (.o (.i (.i (.i (.o .h)))))), 0, true⟩] 0)
   .ret)
   .skip))
   (.seq (.reg [⟨(some (.i (.i (.i (.i (.o .h)))))), none, .call (.o (.i (.i (.i .h)))) [(.s (.o .h))], 0, true⟩,
    ⟨(some (.i .h)), none, .mov (.s (.i (.i (.i (.i (.o .h)))))), 0, true⟩] 0)
   .ret)))) }

/-- halberd/hello.Choose -/
noncomputable def d10 : Go.AE.Fd := { np := 4, res := [.cell (.i (.o (.o .h))) true 6], code :=
   (.seq (.reg [⟨(some (.i (.o .h))), none, .box (.s .h), 0, true⟩,
    ⟨(some (.o (.i .h))), none, .box (.s (.o .h)), 0, true⟩,
    ⟨(some (.i (.o (.o .h)))), none, .alloc [(.int .i64 0), (.int .i64 0), (.str []), (.bool false), (.bool false), (.int .i64 0)], 0, true⟩] 0)
   (.seq (.seq (.reg [⟨(some (.o (.i (.i .h)))), none, .load true 15 (.s (.i (.o .h))), 0, true⟩,
    ⟨(some (.i (.i (.i .h)))), none, .call (.o (.o (.i .h))) [(.s (.o (.i (.i .h))))], 0, true⟩,
    ⟨(some (.o (.o (.o (.o .h))))), none, .un .not (.s (.i (.i (.i .h)))), 0, true⟩,
    ⟨(some (.i (.o (.o (.o .h))))), none, .mov (.s (.o (.o (.o (.o .h))))), 0, true⟩,
    ⟨(some (.o (.i (.o (.o .h))))), (some ((.i (.o (.o (.o .h)))), false)), .lea 0 (.s (.i (.o .h))), 0, true⟩,
    ⟨(some (.i (.i (.o (.o .h))))), (some ((.i (.o (.o (.o .h)))), false)), .load false 1 (.s (.o (.i (.o (.o .h))))), 0, true⟩,
    ⟨(some (.o (.o (.i (.o .h))))), (some ((.i (.o (.o (.o .h)))), false)), .un .not (.s (.i (.i (.o (.o .h))))), 0, true⟩,
    ⟨(some (.i (.o (.i (.o .h))))), none, .pick (.s (.i (.o (.o (.o .h))))) (.c (.bool true)) (.s (.o (.o (.i (.o .h))))), 0, true⟩,
    ⟨(some (.o (.i (.i (.o .h))))), none, .mov (.s (.i (.o (.i (.o .h))))), 0, true⟩,
    ⟨(some (.i (.i (.i (.o .h))))), (some ((.o (.i (.i (.o .h)))), false)), .lea 0 (.s (.o (.i .h))), 0, true⟩,
    ⟨(some (.o (.o (.o (.i .h))))), (some ((.o (.i (.i (.o .h)))), false)), .load false 1 (.s (.i (.i (.i (.o .h))))), 0, true⟩,
    ⟨(some (.i (.o (.o (.i .h))))), (some ((.o (.i (.i (.o .h)))), false)), .bin .neq (.s (.o (.o (.o (.i .h))))) (.c (.int .i64 1)), 0, true⟩,
    ⟨(some (.o (.i (.o (.i .h))))), none, .pick (.s (.o (.i (.i (.o .h))))) (.c (.bool true)) (.s (.i (.o (.o (.i .h))))), 0, true⟩] 0)
   (.cond (.s (.o (.i (.o (.i .h)))))
   (.seq (.reg [⟨(some (.i (.i (.o (.i .h))))), none, .build [(.int .i64 0), (.int .i64 0), (.str []), (.bool false), (.bool false), (.int .i64 0)] [(5, 1, (.c (.int .i64 40)))], 0, true⟩,
    ⟨none, none, .store 6 (.s (.i (.o (.o .h)))) (.s (.i (.i (.o (.i .h))))), 0, true⟩] 0)
   .ret)
   .skip))
   (.seq (.reg [⟨(some (.o (.o (.i (.i .h))))), none, .mov (.s (.i .h)), 0, true⟩,
    ⟨(some (.i (.o (.i (.i .h))))), none, .mov (.s (.o (.o .h))), 0, true⟩,
    ⟨(some (.o (.i (.i (.i .h))))), none, .build [.nilp, .nilp, (.bool false), (.int .i64 0), (.int .i64 0), (.int .i64 0), (.str []), (.bool false), (.bool false), (.int .i64 0)] [(0, 1, (.s (.i (.o .h)))), (1, 1, (.s (.o (.i .h)))), (2, 1, (.s (.o (.o (.i (.i .h)))))), (3, 1, (.s (.i (.o (.i (.i .h))))))], 0, true⟩,
    ⟨(some (.i (.i (.i (.i .h))))), none, .box (.s (.o (.i (.i (.i .h))))), 0, true⟩,
    ⟨(some (.o (.i (.o .h)))), none, .mov (.s (.i (.i (.i (.i .h))))), 0, true⟩] 0)
   (.seq (.seq (.reg [⟨(some (.o (.o (.o (.o (.o .h)))))), none, .bsl 1 3 [.nilf, .nilf, .nilf] [(0, 1, (.c (.fn (.o (.i (.i (.o .h)))) []))), (1, 1, (.c (.fn (.i (.i (.i (.o .h)))) []))), (2, 1, (.c (.fn (.o (.o (.o (.i .h)))) [])))], 0, true⟩,
    ⟨(some (.i (.o (.o (.o (.o .h)))))), none, .len (.s (.o (.o (.o (.o (.o .h)))))), 0, true⟩,
    ⟨(some (.o (.i (.o (.o (.o .h)))))), none, .mov (.c (.int .i64 0)), 0, true⟩] 0)
   (.block 0 (.loop (.seq (.reg [⟨(some (.i (.i (.o (.o (.o .h)))))), none, .bin .lss (.s (.o (.i (.o (.o (.o .h)))))) (.s (.i (.o (.o (.o (.o .h)))))), 0, true⟩] 0)
   (.seq (.cond (.s (.i (.i (.o (.o (.o .h))))))
   .skip
   (.exit 0))
   (.seq (.block 1 (.seq (.reg [⟨(some (.o (.o (.i (.o (.o .h)))))), none, .ixS 1 (.s (.o (.o (.o (.o (.o .h)))))) (.s (.o (.i (.o (.o (.o .h)))))), 0, true⟩,
    ⟨(some (.i (.o (.i (.o (.o .h)))))), none, .load false 1 (.s (.o (.o (.i (.o (.o .h)))))), 0, true⟩,
    ⟨(some (.o (.o (.i .h)))), none, .mov (.s (.i (.o (.i (.o (.o .h)))))), 0, true⟩] 0)
   (.seq (.reg [⟨(some (.o (.i (.i (.o (.o .h)))))), none, .mov (.s (.o (.o (.i .h)))), 0, true⟩,
    ⟨(some (.i (.i (.i (.o (.o .h)))))), none, .mov (.s (.o (.i (.o .h)))), 0, true⟩,
    ⟨(some (.o (.o (.o (.i (.o .h)))))), none, .callv (.s (.o (.i (.i (.o (.o .h)))))) [(.s (.i (.i (.i (.o (.o .h))))))], 0, true⟩,
    ⟨(some (.i (.o (.i .h)))), none, .mov (.s (.o (.o (.o (.i (.o .h)))))), 0, true⟩] 0)
   (.seq (.reg [⟨(some (.i (.o (.o (.i (.o .h)))))), none, .mov (.s (.i (.o (.i .h)))), 0, true⟩,
    ⟨(some (.o (.i (.o (.i (.o .h)))))), none, .bin .neq (.s (.i (.o (.o (.i (.o .h)))))) (.c (.int .i64 (-1))), 0, true⟩] 0)
   (.cond (.s (.o (.i (.o (.i (.o .h))))))
   (.seq (.reg [⟨(some (.i (.i (.o (.i (.o .h)))))), none, .mov (.s (.i (.o (.i .h)))), 0, true⟩,
    ⟨(some (.o (.o (.i (.i (.o .h)))))), none, .build [(.int .i64 0), (.int .i64 0), (.str []), (.bool false), (.bool false), (.int .i64 0)] [(5, 1, (.s (.i (.i (.o (.i (.o .h)))))))], 0, true⟩,
    ⟨none, none, .store 6 (.s (.i (.o (.o .h)))) (.s (.o (.o (.i (.i (.o .h)))))), 0, true⟩] 0)
   .ret)
   .skip)))))
   (.reg [⟨(some (.i (.o (.i (.i (.o .h)))))), none, .bin .add (.s (.o (.i (.o (.o (.o .h)))))) (.c (.int .i64 1)), 0, true⟩,
    ⟨(some (.o (.i (.o (.o (.o .h)))))), none, .mov (.s (.i (.o (.i (.i (.o .h)))))), 0, true⟩] 0)))))))
   (.seq (.reg [⟨(some (.o (.i (.i (.i (.o .h)))))), none, .mov (.s (.o (.i (.o .h)))), 0, true⟩,
    ⟨(some (.i (.i (.i (.i (.o .h)))))), none, .nilc (.s (.o (.i (.i (.i (.o .h)))))), 0, true⟩,
    ⟨(some (.o (.o (.o (.o (.i .h)))))), none, .lea 4 (.s (.i (.i (.i (.i (.o .h)))))), 0, true⟩,
    ⟨(some (.i (.o (.o (.o (.i .h)))))), none, .lea 5 (.s (.o (.o (.o (.o (.i .h)))))), 0, true⟩,
    ⟨none, none, .store 1 (.s (.i (.o (.o (.o (.i .h)))))) (.c (.int .i64 (-1))), 0, true⟩] 0)
   (.seq (.reg [⟨(some (.o (.i (.o (.o (.i .h)))))), none, .mov (.s (.o (.i (.o .h)))), 0, true⟩,
    ⟨(some (.i (.i (.o (.o (.i .h)))))), none, .nilc (.s (.o (.i (.o (.o (.i .h)))))), 0, true⟩,
    ⟨(some (.o (.o (.i (.o (.i .h)))))), none, .lea 4 (.s (.i (.i (.o (.o (.i .h)))))), 0, true⟩,
    ⟨(some (.i (.o (.i (.o (.i .h)))))), none, .load true 6 (.s (.o (.o (.i (.o (.i .h)))))), 0, true⟩,
    ⟨none, none, .store 6 (.s (.i (.o (.o .h)))) (.s (.i (.o (.i (.o (.i .h)))))), 0, true⟩] 0)
   .ret)))))) }

/-- slices.Clone[[]int,int] -/
noncomputable def d30 : Go.AE.Fd := { np := 1, res := [.tmp (.i .h)], code :=
   (.seq (.reg [⟨(some (.i .h)), none, .mov (.c .nils), 0, true⟩] 0)
   (.seq (.seq (.reg [⟨(some (.o (.o .h))), none, .mov (.s .h), 0, true⟩,
    ⟨(some (.i (.o .h))), none, .nilq .s false (.s (.o (.o .h))), 0, true⟩] 0)
   (.cond (.s (.i (.o .h)))
   (.seq (.reg [⟨(some (.i .h)), none, .mov (.c .nils), 0, true⟩] 0)
   .ret)
   .skip))
   (.seq (.reg [⟨(some (.o (.i .h))), none, .bsl 1 0 [] [], 0, true⟩,
    ⟨(some (.i (.i .h))), none, .mov (.s .h), 0, true⟩,
    ⟨(some (.o (.o (.o .h)))), none, .app 1 8 (.s (.o (.i .h))) (.s (.i (.i .h))), 0, true⟩,
    ⟨(some (.i .h)), none, .mov (.s (.o (.o (.o .h)))), 0, true⟩] 0)
   .ret))) }

/-- halberd/hello.Counts -/
noncomputable def d31 : Go.AE.Fd := { np := 1, res := [.cell (.i .h) true 6, .tmp (.o (.o .h))], code :=
   (.seq (.reg [⟨(some (.i .h)), none, .alloc [(.str []), (.str []), (.int .i64 0), (.int .i64 0), (.int .i64 0), (.int .i64 0)], 0, true⟩,
    ⟨(some (.o (.o .h))), none, .mov (.c (.bool false)), 0, true⟩] 0)
   (.seq (.seq (.reg [⟨(some (.i (.o .h))), none, .mov (.s .h), 0, false⟩,
    ⟨(some (.o (.i .h))), none, .nilc (.s (.i (.o .h))), 0, false⟩,
    ⟨(some (.i (.i .h))), none, .lea 9 (.s (.o (.i .h))), 0, false⟩,
    ⟨(some (.o (.o (.o .h)))), none, .load false 1 (.s (.i (.i .h))), 0, false⟩,
    ⟨(some (.i (.o (.o .h)))), none, .len (.s (.o (.o (.o .h)))), 0, false⟩,
    ⟨(some (.o (.i (.o .h)))), none, .bin .eql (.s (.i (.o (.o .h)))) (.c (.int .i64 0)), 0, false⟩,
    ⟨(some (.i (.i (.o .h)))), none, .mov (.s (.o (.i (.o .h)))), 0, false⟩,
    ⟨(some (.o (.o (.i .h)))), (some ((.i (.i (.o .h))), false)), .mov (.s .h), 0, false⟩,
    ⟨(some (.i (.o (.i .h)))), (some ((.i (.i (.o .h))), false)), .nilc (.s (.o (.o (.i .h)))), 0, false⟩,
    ⟨(some (.o (.i (.i .h)))), (some ((.i (.i (.o .h))), false)), .lea 9 (.s (.i (.o (.i .h)))), 0, false⟩,
    ⟨(some (.i (.i (.i .h)))), (some ((.i (.i (.o .h))), false)), .load false 1 (.s (.o (.i (.i .h)))), 0, false⟩,
    ⟨(some (.o (.o (.o (.o .h))))), (some ((.i (.i (.o .h))), false)), .ixS 6 (.s (.i (.i (.i .h)))) (.c (.int .i64 0)), 0, false⟩,
    ⟨(some (.i (.o (.o (.o .h))))), (some ((.i (.i (.o .h))), false)), .lea 4 (.s (.o (.o (.o (.o .h))))), 0, false⟩,
    ⟨(some (.o (.i (.o (.o .h))))), (some ((.i (.i (.o .h))), false)), .load false 1 (.s (.i (.o (.o (.o .h))))), 0, false⟩,
    ⟨(some (.i (.i (.o (.o .h))))), (some ((.i (.i (.o .h))), false)), .mov (.s .h), 0, false⟩,
    ⟨(some (.o (.o (.i (.o .h))))), (some ((.i (.i (.o .h))), false)), .nilc (.s (.i (.i (.o (.o .h))))), 0, false⟩,
    ⟨(some (.i (.o (.i (.o .h))))), (some ((.i (.i (.o .h))), false)), .lea 11 (.s (.o (.o (.i (.o .h))))), 0, false⟩,
    ⟨(some (.o (.i (.i (.o .h))))), (some ((.i (.i (.o .h))), false)), .load false 1 (.s (.i (.o (.i (.o .h))))), 0, false⟩,
    ⟨(some (.i (.i (.i (.o .h))))), (some ((.i (.i (.o .h))), false)), .bin .gtr (.s (.o (.i (.o (.o .h))))) (.s (.o (.i (.i (.o .h))))), 0, false⟩,
    ⟨(some (.o (.o (.o (.i .h))))), none, .pick (.s (.i (.i (.o .h)))) (.c (.bool true)) (.s (.i (.i (.i (.o .h))))), 0, false⟩,
    ⟨(some (.i (.o (.o (.i .h))))), none, .mov (.s (.o (.o (.o (.i .h))))), 0, false⟩,
    ⟨(some (.o (.i (.o (.i .h))))), (some ((.i (.o (.o (.i .h)))), false)), .mov (.s .h), 0, false⟩,
    ⟨(some (.i (.i (.o (.i .h))))), (some ((.i (.o (.o (.i .h)))), false)), .nilc (.s (.o (.i (.o (.i .h))))), 0, false⟩,
    ⟨(some (.o (.o (.i (.i .h))))), (some ((.i (.o (.o (.i .h)))), false)), .lea 11 (.s (.i (.i (.o (.i .h))))), 0, false⟩,
    ⟨(some (.i (.o (.i (.i .h))))), (some ((.i (.o (.o (.i .h)))), false)), .load false 1 (.s (.o (.o (.i (.i .h))))), 0, false⟩,
    ⟨(some (.o (.i (.i (.i .h))))), (some ((.i (.o (.o (.i .h)))), false)), .mov (.s .h), 0, false⟩,
    ⟨(some (.i (.i (.i (.i .h))))), (some ((.i (.o (.o (.i .h)))), false)), .nilc (.s (.o (.i (.i (.i .h))))), 0, false⟩,
    ⟨(some (.o (.o (.o (.o (.o .h)))))), (some ((.i (.o (.o (.i .h)))), false)), .lea 9 (.s (.i (.i (.i (.i .h))))), 0, false⟩,
    ⟨(some (.i (.o (.o (.o (.o .h)))))), (some ((.i (.o (.o (.i .h)))), false)), .load false 1 (.s (.o (.o (.o (.o (.o .h)))))), 0, false⟩,
    ⟨(some (.o (.i (.o (.o (.o .h)))))), (some ((.i (.o (.o (.i .h)))), false)), .ixS 6 (.s (.i (.o (.o (.o (.o .h)))))) (.c (.int .i64 0)), 0, false⟩,
    ⟨(some (.i (.i (.o (.o (.o .h)))))), (some ((.i (.o (.o (.i .h)))), false)), .lea 4 (.s (.o (.i (.o (.o (.o .h)))))), 0, false⟩,
    ⟨(some (.o (.o (.i (.o (.o .h)))))), (some ((.i (.o (.o (.i .h)))), false)), .load false 1 (.s (.i (.i (.o (.o (.o .h)))))), 0, false⟩,
    ⟨(some (.i (.o (.i (.o (.o .h)))))), (some ((.i (.o (.o (.i .h)))), false)), .bin .sub (.s (.i (.o (.i (.i .h))))) (.s (.o (.o (.i (.o (.o .h)))))), 0, false⟩,
    ⟨(some (.o (.i (.i (.o (.o .h)))))), (some ((.i (.o (.o (.i .h)))), false)), .mov (.s .h), 0, false⟩,
    ⟨(some (.i (.i (.i (.o (.o .h)))))), (some ((.i (.o (.o (.i .h)))), false)), .nilc (.s (.o (.i (.i (.o (.o .h)))))), 0, false⟩,
    ⟨(some (.o (.o (.o (.i (.o .h)))))), (some ((.i (.o (.o (.i .h)))), false)), .lea 9 (.s (.i (.i (.i (.o (.o .h)))))), 0, false⟩,
    ⟨(some (.i (.o (.o (.i (.o .h)))))), (some ((.i (.o (.o (.i .h)))), false)), .load false 1 (.s (.o (.o (.o (.i (.o .h)))))), 0, false⟩,
    ⟨(some (.o (.i (.o (.i (.o .h)))))), (some ((.i (.o (.o (.i .h)))), false)), .ixS 6 (.s (.i (.o (.o (.i (.o .h)))))) (.c (.int .i64 0)), 0, false⟩,
    ⟨(some (.i (.i (.o (.i (.o .h)))))), (some ((.i (.o (.o (.i .h)))), false)), .lea 5 (.s (.o (.i (.o (.i (.o .h)))))), 0, false⟩,
    ⟨(some (.o (.o (.i (.i (.o .h)))))), (some ((.i (.o (.o (.i .h)))), false)), .load false 1 (.s (.i (.i (.o (.i (.o .h)))))), 0, false⟩,
    ⟨(some (.i (.o (.i (.i (.o .h)))))), (some ((.i (.o (.o (.i .h)))), false)), .bin .gtr (.s (.i (.o (.i (.o (.o .h)))))) (.s (.o (.o (.i (.i (.o .h)))))), 0, false⟩,
    ⟨(some (.o (.i (.i (.i (.o .h)))))), none, .pick (.s (.i (.o (.o (.i .h))))) (.c (.bool true)) (.s (.i (.o (.i (.i (.o .h)))))), 0, false⟩] 0)
   (.cond (.s (.o (.i (.i (.i (.o .h))))))
   (.seq (.reg [⟨(some (.i (.i (.i (.i (.o .h)))))), none, .build [(.str []), (.str []), (.int .i64 0), (.int .i64 0), (.int .i64 0), (.int .i64 0)] [], 0, true⟩,
    ⟨none, none, .store 6 (.s (.i .h)) (.s (.i (.i (.i (.i (.o .h)))))), 0, true⟩,
    ⟨(some (.o (.o .h))), none, .mov (.c (.bool false)), 0, true⟩] 0)
   .ret)
   .skip))
   (.seq (.reg [⟨(some (.o (.o (.o (.o (.i .h)))))), none, .mov (.s .h), 0, true⟩,
    ⟨(some (.i (.o (.o (.o (.i .h)))))), none, .nilc (.s (.o (.o (.o (.o (.i .h)))))), 0, true⟩,
    ⟨(some (.o (.i (.o (.o (.i .h)))))), none, .lea 9 (.s (.i (.o (.o (.o (.i .h)))))), 0, true⟩,
    ⟨(some (.i (.i (.o (.o (.i .h)))))), none, .load false 1 (.s (.o (.i (.o (.o (.i .h)))))), 0, true⟩,
    ⟨(some (.o (.o (.i (.o (.i .h)))))), none, .ixS 6 (.s (.i (.i (.o (.o (.i .h)))))) (.c (.int .i64 0)), 0, true⟩,
    ⟨(some (.i (.o (.i (.o (.i .h)))))), none, .load true 6 (.s (.o (.o (.i (.o (.i .h)))))), 0, true⟩,
    ⟨none, none, .store 6 (.s (.i .h)) (.s (.i (.o (.i (.o (.i .h)))))), 0, true⟩,
    ⟨(some (.o (.o .h))), none, .mov (.c (.bool true)), 0, true⟩] 0)
   .ret))) }

/-- halberd/hello.First -/
noncomputable def d16 : Go.AE.Fd := { np := 4, res := [.cell (.i (.o (.o .h))) true 21, .tmp (.o (.i (.o .h)))], code :=
   (.seq (.reg [⟨(some (.i (.o .h))), none, .box (.s .h), 0, true⟩,
    ⟨(some (.i (.o (.o .h)))), none, .alloc [(.int .i64 0), (.str []), (.str []), .nils, (.str []), .nils, .nils, .nils, .nils, .nils, .nils, .nils, (.int .i64 0), .nils, .nils, (.int .i64 0), (.str []), (.int .i64 0), (.int .i64 0), (.str []), (.int .i64 0)], 0, true⟩,
    ⟨(some (.o (.i (.o .h)))), none, .mov (.c (.int .i64 0)), 0, true⟩] 0)
   (.seq (.seq (.reg [⟨(some (.o (.i (.i .h)))), none, .load true 15 (.s (.i (.o .h))), 0, true⟩,
    ⟨(some (.i (.i (.i .h)))), none, .call (.o (.o (.i .h))) [(.s (.o (.i (.i .h))))], 0, true⟩,
    ⟨(some (.o (.o (.o (.o .h))))), none, .un .not (.s (.i (.i (.i .h)))), 0, true⟩,
    ⟨(some (.i (.o (.o (.o .h))))), none, .mov (.s (.o (.o (.o (.o .h))))), 0, true⟩,
    ⟨(some (.o (.i (.o (.o .h))))), (some ((.i (.o (.o (.o .h)))), false)), .lea 0 (.s (.i (.o .h))), 0, true⟩,
    ⟨(some (.i (.i (.o (.o .h))))), (some ((.i (.o (.o (.o .h)))), false)), .load false 1 (.s (.o (.i (.o (.o .h))))), 0, true⟩,
    ⟨(some (.o (.o (.i (.o .h))))), none, .pick (.s (.i (.o (.o (.o .h))))) (.c (.bool true)) (.s (.i (.i (.o (.o .h))))), 0, true⟩,
    ⟨(some (.i (.o (.i (.o .h))))), none, .mov (.s (.o (.o (.i (.o .h))))), 0, true⟩,
    ⟨(some (.o (.i (.i (.o .h))))), (some ((.i (.o (.i (.o .h)))), false)), .mov (.s (.o .h)), 0, true⟩,
    ⟨(some (.i (.i (.i (.o .h))))), (some ((.i (.o (.i (.o .h)))), false)), .lenS (.s (.o (.i (.i (.o .h))))), 0, true⟩,
    ⟨(some (.o (.o (.o (.i .h))))), (some ((.i (.o (.i (.o .h)))), false)), .bin .neq (.s (.i (.i (.i (.o .h))))) (.c (.int .i64 32)), 0, true⟩,
    ⟨(some (.i (.o (.o (.i .h))))), none, .pick (.s (.i (.o (.i (.o .h))))) (.c (.bool true)) (.s (.o (.o (.o (.i .h))))), 0, true⟩,
    ⟨(some (.o (.i (.o (.i .h))))), none, .mov (.s (.i (.o (.o (.i .h))))), 0, true⟩,
    ⟨(some (.i (.i (.o (.i .h))))), (some ((.o (.i (.o (.i .h)))), false)), .mov (.s (.i .h)), 0, true⟩,
    ⟨(some (.o (.o (.i (.i .h))))), (some ((.o (.i (.o (.i .h)))), false)), .lenS (.s (.i (.i (.o (.i .h))))), 0, true⟩,
    ⟨(some (.i (.o (.i (.i .h))))), (some ((.o (.i (.o (.i .h)))), false)), .bin .neq (.s (.o (.o (.i (.i .h))))) (.c (.int .i64 32)), 0, true⟩,
    ⟨(some (.o (.i (.i (.i .h))))), none, .pick (.s (.o (.i (.o (.i .h))))) (.c (.bool true)) (.s (.i (.o (.i (.i .h))))), 0, true⟩,
    ⟨(some (.i (.i (.i (.i .h))))), none, .mov (.s (.o (.i (.i (.i .h))))), 0, true⟩,
    ⟨(some (.o (.o (.o (.o (.o .h)))))), (some ((.i (.i (.i (.i .h)))), false)), .mov (.s (.o (.o .h))), 0, true⟩,
    ⟨(some (.i (.o (.o (.o (.o .h)))))), (some ((.i (.i (.i (.i .h)))), false)), .bin .eql (.s (.o (.o (.o (.o (.o .h)))))) (.c (.str [])), 0, true⟩,
    ⟨(some (.o (.i (.o (.o (.o .h)))))), none, .pick (.s (.i (.i (.i (.i .h))))) (.c (.bool true)) (.s (.i (.o (.o (.o (.o .h)))))), 0, true⟩] 0)
   (.cond (.s (.o (.i (.o (.o (.o .h))))))
   (.seq (.reg [⟨(some (.i (.i (.o (.o (.o .h)))))), none, .build [(.int .i64 0), (.str []), (.str []), .nils, (.str []), .nils, .nils, .nils, .nils, .nils, .nils, .nils, (.int .i64 0), .nils, .nils, (.int .i64 0), (.str []), (.int .i64 0), (.int .i64 0), (.str []), (.int .i64 0)] [], 0, true⟩,
    ⟨none, none, .store 21 (.s (.i (.o (.o .h)))) (.s (.i (.i (.o (.o (.o .h)))))), 0, true⟩,
    ⟨(some (.o (.i (.o .h)))), none, .mov (.c (.int .i64 2400)), 0, true⟩] 0)
   .ret)
   .skip))
   (.seq (.reg [⟨(some (.o (.o (.i (.o (.o .h)))))), none, .mov (.s (.o .h)), 0, false⟩,
    ⟨(some (.i (.o (.i (.o (.o .h)))))), none, .mov (.s (.i .h)), 0, false⟩,
    ⟨(some (.o (.i (.i (.o (.o .h)))))), none, .lea 1 (.s (.i (.o .h))), 0, false⟩,
    ⟨(some (.i (.i (.i (.o (.o .h)))))), none, .load false 1 (.s (.o (.i (.i (.o (.o .h)))))), 0, false⟩,
    ⟨(some (.o (.o (.o (.i (.o .h)))))), none, .call (.i (.i (.i (.i .h)))) [(.s (.i (.i (.i (.o (.o .h))))))], 0, false⟩,
    ⟨(some (.i (.o (.o (.i (.o .h)))))), none, .lea 6 (.s (.i (.o .h))), 0, false⟩,
    ⟨(some (.o (.i (.o (.i (.o .h)))))), none, .load false 1 (.s (.i (.o (.o (.i (.o .h)))))), 0, false⟩,
    ⟨(some (.i (.i (.o (.i (.o .h)))))), none, .lea 2 (.s (.i (.o .h))), 0, false⟩,
    ⟨(some (.o (.o (.i (.i (.o .h)))))), none, .load false 1 (.s (.i (.i (.o (.i (.o .h)))))), 0, false⟩,
    ⟨(some (.i (.o (.i (.i (.o .h)))))), none, .call (.i (.i (.i (.i .h)))) [(.s (.o (.o (.i (.i (.o .h))))))], 2, false⟩,
    ⟨(some (.o (.i (.i (.i (.o .h)))))), none, .bsl 1 1 [(.int .i64 0)] [(0, 1, (.c (.int .i64 772)))], 4, false⟩,
    ⟨(some (.i (.i (.i (.i (.o .h)))))), none, .bsl 1 1 [(.int .i64 0)] [(0, 1, (.c (.int .i64 1027)))], 5, false⟩,
    ⟨(some (.o (.o (.o (.o (.i .h)))))), none, .lea 2 (.s (.i (.o .h))), 0, false⟩,
    ⟨(some (.i (.o (.o (.o (.i .h)))))), none, .load false 1 (.s (.o (.o (.o (.o (.i .h)))))), 0, false⟩,
    ⟨(some (.o (.i (.o (.o (.i .h)))))), none, .ixS 1 (.s (.i (.o (.o (.o (.i .h)))))) (.c (.int .i64 0)), 0, false⟩,
    ⟨(some (.i (.i (.o (.o (.i .h)))))), none, .load false 1 (.s (.o (.i (.o (.o (.i .h)))))), 0, false⟩,
    ⟨(some (.o (.o (.i (.o (.i .h)))))), none, .mov (.s (.o (.o .h))), 0, false⟩,
    ⟨(some (.i (.o (.i (.o (.i .h)))))), none, .build [(.int .i64 0), (.str [])] [(0, 1, (.s (.i (.i (.o (.o (.i .h))))))), (1, 1, (.s (.o (.o (.i (.o (.i .h)))))))], 0, false⟩,
    ⟨(some (.o (.i (.i (.o (.i .h)))))), none, .bsl 2 1 [(.int .i64 0), (.str [])] [(0, 2, (.s (.i (.o (.i (.o (.i .h)))))))], 6, false⟩,
    ⟨(some (.i (.i (.i (.o (.i .h)))))), none, .build [(.int .i64 0), (.str []), (.str []), .nils, (.str []), .nils, .nils, .nils, .nils, .nils, .nils, .nils, (.int .i64 0), .nils, .nils, (.int .i64 0), (.str []), (.int .i64 0), (.int .i64 0), (.str []), (.int .i64 0)] [(0, 1, (.c (.int .i64 1))), (1, 1, (.s (.o (.o (.i (.o (.o .h))))))), (2, 1, (.s (.i (.o (.i (.o (.o .h))))))), (3, 1, (.s (.o (.o (.o (.i (.o .h))))))), (4, 1, (.s (.o (.i (.o (.i (.o .h))))))), (6, 1, (.s (.i (.o (.i (.i (.o .h))))))), (5, 1, (.s (.o (.i (.i (.i (.o .h))))))), (7, 1, (.s (.i (.i (.i (.i (.o .h))))))), (9, 1, (.s (.o (.i (.i (.o (.i .h)))))))], 0, false⟩,
    ⟨(some (.i (.i (.o .h)))), none, .alloc [(.int .i64 0), (.str []), (.str []), .nils, (.str []), .nils, .nils, .nils, .nils, .nils, .nils, .nils, (.int .i64 0), .nils, .nils, (.int .i64 0), (.str []), (.int .i64 0), (.int .i64 0), (.str []), (.int .i64 0)], 7, false⟩,
    ⟨none, none, .store 21 (.s (.i (.i (.o .h)))) (.s (.i (.i (.i (.o (.i .h)))))), 0, false⟩] 8)
   (.seq (.seq (.reg [⟨(some (.i (.o (.o (.i (.i .h)))))), none, .call (.o (.o (.o (.o (.o .h))))) [(.s (.i (.o .h)))], 0, true⟩,
    ⟨(some (.o (.o (.o (.i (.i .h)))))), none, .mov (.s (.i (.o (.o (.i (.i .h)))))), 0, true⟩,
    ⟨(some (.o (.i (.o (.i (.i .h)))))), none, .ext 0 (.s (.o (.o (.o (.i (.i .h)))))), 0, true⟩,
    ⟨(some (.i (.i (.o (.i (.i .h)))))), none, .ext 1 (.s (.o (.o (.o (.i (.i .h)))))), 0, true⟩,
    ⟨(some (.o (.o (.i .h)))), none, .alloc [(.str []), (.str []), (.int .i64 0), (.int .i64 0), (.int .i64 0), (.int .i64 0)], 0, true⟩,
    ⟨none, none, .store 6 (.s (.o (.o (.i .h)))) (.s (.o (.i (.o (.i (.i .h)))))), 0, true⟩,
    ⟨(some (.i (.o (.i .h)))), none, .mov (.s (.i (.i (.o (.i (.i .h)))))), 0, true⟩] 0)
   (.seq (.reg [⟨(some (.o (.o (.i (.i (.i .h)))))), none, .mov (.s (.i (.o (.i .h)))), 0, true⟩] 0)
   (.cond (.s (.o (.o (.i (.i (.i .h))))))
   (.seq (.reg [⟨(some (.i (.o (.i (.i (.i .h)))))), none, .bsl 1 1 [(.int .i64 0)] [(0, 1, (.c (.int .i64 1)))], 0, true⟩,
    ⟨(some (.o (.i (.i (.i (.i .h)))))), none, .lea 8 (.s (.i (.i (.o .h)))), 0, true⟩,
    ⟨none, none, .store 1 (.s (.o (.i (.i (.i (.i .h)))))) (.s (.i (.o (.i (.i (.i .h)))))), 0, true⟩] 0)
   (.seq (.reg [⟨(some (.i (.i (.i (.i (.i .h)))))), none, .lea 0 (.s (.o (.o (.i .h)))), 0, true⟩,
    ⟨(some (.o (.o (.o (.o (.o (.o .h))))))), none, .load false 1 (.s (.i (.i (.i (.i (.i .h)))))), 0, true⟩,
    ⟨(some (.i (.o (.o (.o (.o (.o .h))))))), none, .lea 11 (.s (.i (.o .h))), 0, true⟩,
    ⟨(some (.o (.i (.o (.o (.o (.o .h))))))), none, .load false 1 (.s (.i (.o (.o (.o (.o (.o .h))))))), 0, true⟩,
    ⟨(some (.i (.i (.o (.o (.o (.o .h))))))), none, .lea 4 (.s (.o (.o (.i .h)))), 0, true⟩,
    ⟨(some (.o (.o (.i (.o (.o (.o .h))))))), none, .load false 1 (.s (.i (.i (.o (.o (.o (.o .h))))))), 0, true⟩,
    ⟨(some (.i (.o (.i (.o (.o (.o .h))))))), none, .bin .sub (.s (.o (.i (.o (.o (.o (.o .h))))))) (.s (.o (.o (.i (.o (.o (.o .h))))))), 0, true⟩,
    ⟨(some (.o (.i (.i (.o (.o (.o .h))))))), none, .bin .mul (.c (.int .i64 1000)) (.s (.i (.o (.i (.o (.o (.o .h))))))), 0, true⟩,
    ⟨(some (.i (.i (.i (.o (.o (.o .h))))))), none, .lea 3 (.s (.o (.o (.i .h)))), 0, true⟩,
    ⟨(some (.o (.o (.o (.i (.o (.o .h))))))), none, .load false 1 (.s (.i (.i (.i (.o (.o (.o .h))))))), 0, true⟩,
    ⟨(some (.i (.o (.o (.i (.o (.o .h))))))), none, .bin .add (.s (.o (.i (.i (.o (.o (.o .h))))))) (.s (.o (.o (.o (.i (.o (.o .h))))))), 0, true⟩,
    ⟨(some (.o (.i (.o (.i (.o (.o .h))))))), none, .bin .and (.s (.i (.o (.o (.i (.o (.o .h))))))) (.c (.int .i64 4294967295)), 0, true⟩,
    ⟨(some (.i (.i (.o (.i (.o (.o .h))))))), none, .build [(.str []), (.int .i64 0)] [(0, 1, (.s (.o (.o (.o (.o (.o (.o .h)))))))), (1, 1, (.s (.o (.i (.o (.i (.o (.o .h))))))))], 0, true⟩,
    ⟨(some (.o (.o (.i (.i (.o (.o .h))))))), none, .bsl 2 1 [(.str []), (.int .i64 0)] [(0, 2, (.s (.i (.i (.o (.i (.o (.o .h))))))))], 0, true⟩,
    ⟨(some (.i (.o (.i (.i (.o (.o .h))))))), none, .lea 10 (.s (.i (.i (.o .h)))), 0, true⟩,
    ⟨none, none, .store 1 (.s (.i (.o (.i (.i (.o (.o .h))))))) (.s (.o (.o (.i (.i (.o (.o .h))))))), 0, true⟩] 0)
   (.reg [⟨(some (.o (.i (.i (.i (.o (.o .h))))))), none, .lea 1 (.s (.o (.o (.i .h)))), 0, true⟩,
    ⟨(some (.i (.i (.i (.i (.o (.o .h))))))), none, .load false 1 (.s (.o (.i (.i (.i (.o (.o .h))))))), 0, true⟩,
    ⟨(some (.o (.o (.o (.o (.i (.o .h))))))), none, .lenS (.s (.i (.i (.i (.i (.o (.o .h))))))), 0, true⟩,
    ⟨(some (.i (.o (.o (.o (.i (.o .h))))))), none, .mks 1 1 [(.int .u8 0)] (.s (.o (.o (.o (.o (.i (.o .h))))))) (.s (.o (.o (.o (.o (.i (.o .h))))))), 0, true⟩,
    ⟨(some (.o (.i (.o (.o (.i (.o .h))))))), none, .b2s (.s (.i (.o (.o (.o (.i (.o .h))))))), 0, true⟩,
    ⟨(some (.i (.i (.o (.o (.i (.o .h))))))), none, .bsl 1 1 [(.str [])] [(0, 1, (.s (.o (.i (.o (.o (.i (.o .h))))))))], 0, true⟩,
    ⟨(some (.o (.o (.i (.o (.i (.o .h))))))), none, .lea 11 (.s (.i (.i (.o .h)))), 0, true⟩,
    ⟨none, none, .store 1 (.s (.o (.o (.i (.o (.i (.o .h))))))) (.s (.i (.i (.o (.o (.i (.o .h))))))), 0, true⟩] 0)))
   .skip)))
   (.seq (.reg [⟨(some (.i (.o (.i (.o (.i (.o .h))))))), none, .load true 21 (.s (.i (.i (.o .h)))), 0, true⟩,
    ⟨none, none, .store 21 (.s (.i (.o (.o .h)))) (.s (.i (.o (.i (.o (.i (.o .h))))))), 0, true⟩,
    ⟨(some (.o (.i (.o .h)))), none, .mov (.c (.int .i64 0)), 0, true⟩] 0)
   .ret))))) }

/-- halberd/halberdlaw0.Num -/
noncomputable def d17 : Go.AE.Fd := { np := 1, res := [.tmp (.i .h)], code :=
   (.seq (.reg [⟨(some (.i .h)), none, .mov (.c (.int .i64 0)), 0, true⟩] 0)
   (.seq (.reg [⟨(some (.o (.o .h))), none, .mov (.s .h), 0, true⟩,
    ⟨(some (.i .h)), none, .mov (.s (.o (.o .h))), 0, true⟩] 0)
   .ret)) }

/-- halberd/halberdlaw24.awake -/
noncomputable def d9 : Go.AE.Fd := { np := 0, res := [.tmp .h], code :=
   (.seq (.reg [⟨(some .h), none, .mov (.c (.bool false)), 0, true⟩] 0)
   (.seq (.reg [⟨(some (.i (.o (.o .h)))), none, .bsl 1 1 [(.int .i64 0)] [(0, 1, (.c (.int .i64 4865)))], 0, true⟩,
    ⟨(some (.o (.i (.o .h)))), none, .bsl 1 1 [(.int .i64 0)] [(0, 1, (.c (.int .i64 29)))], 0, true⟩,
    ⟨(some (.i (.i (.o .h)))), none, .build [(.bool false), .nils, .nils, .nils, (.str []), .nils, (.str []), (.int .i64 0), (.str []), .nils, (.str []), (.int .i64 0), (.int .i64 0), (.int .i64 0), (.int .i64 0)] [(1, 1, (.s (.i (.o (.o .h))))), (2, 1, (.s (.o (.i (.o .h))))), (13, 1, (.c (.int .i64 4))), (14, 1, (.c (.int .i64 33290)))], 0, true⟩,
    ⟨(some (.o .h)), none, .alloc [(.bool false), .nils, .nils, .nils, (.str []), .nils, (.str []), (.int .i64 0), (.str []), .nils, (.str []), (.int .i64 0), (.int .i64 0), (.int .i64 0), (.int .i64 0)], 0, true⟩,
    ⟨none, none, .store 15 (.s (.o .h)) (.s (.i (.i (.o .h)))), 0, true⟩] 0)
   (.seq (.reg [⟨(some (.o (.o (.i .h)))), none, .mks 1 1 [(.int .u8 0)] (.c (.int .i64 32)) (.c (.int .i64 32)), 0, true⟩,
    ⟨(some (.i (.o (.i .h)))), none, .b2s (.s (.o (.o (.i .h)))), 0, true⟩,
    ⟨(some (.i .h)), none, .mov (.s (.i (.o (.i .h)))), 0, true⟩] 0)
   (.seq (.reg [⟨(some (.i (.i (.i .h)))), none, .load true 15 (.s (.o .h)), 0, true⟩,
    ⟨(some (.o (.o (.o (.o .h))))), none, .mov (.s (.i .h)), 0, true⟩,
    ⟨(some (.i (.o (.o (.o .h))))), none, .mov (.s (.i .h)), 0, true⟩,
    ⟨(some (.o (.i (.o (.o .h))))), none, .call (.i (.o (.o (.o .h)))) [(.s (.i (.i (.i .h)))), (.s (.o (.o (.o (.o .h))))), (.s (.i (.o (.o (.o .h))))), (.c (.str [107]))], 0, true⟩,
    ⟨(some (.o (.i (.i .h)))), none, .mov (.s (.o (.i (.o (.o .h))))), 0, true⟩,
    ⟨(some (.i (.i (.o (.o .h))))), none, .ext 0 (.s (.o (.i (.i .h)))), 0, true⟩,
    ⟨(some (.o (.o (.i (.o .h))))), none, .ext 1 (.s (.o (.i (.i .h)))), 0, true⟩,
    ⟨(some (.o (.o .h))), none, .alloc [(.int .i64 0), (.str []), (.str []), .nils, (.str []), .nils, .nils, .nils, .nils, .nils, .nils, .nils, (.int .i64 0), .nils, .nils, (.int .i64 0), (.str []), (.int .i64 0), (.int .i64 0), (.str []), (.int .i64 0)], 0, true⟩,
    ⟨none, none, .store 21 (.s (.o (.o .h))) (.s (.i (.i (.o (.o .h))))), 0, true⟩,
    ⟨(some (.i (.o .h))), none, .mov (.s (.o (.o (.i (.o .h))))), 0, true⟩] 0)
   (.seq (.reg [⟨(some (.o (.i (.i (.o .h))))), none, .build [(.bool false), .nils, .nils, .nils, (.str []), .nils, (.str []), (.int .i64 0), (.str []), .nils, (.str []), (.int .i64 0), (.int .i64 0), (.int .i64 0), (.int .i64 0)] [], 0, true⟩,
    ⟨(some (.i (.i (.i (.o .h))))), none, .mov (.s (.i .h)), 0, true⟩,
    ⟨(some (.o (.o (.o (.i .h))))), none, .mov (.s (.i .h)), 0, true⟩,
    ⟨(some (.i (.o (.o (.i .h))))), none, .call (.i (.o (.o (.o .h)))) [(.s (.o (.i (.i (.o .h))))), (.s (.i (.i (.i (.o .h))))), (.s (.o (.o (.o (.i .h))))), (.c (.str [107]))], 0, true⟩,
    ⟨(some (.i (.o (.i (.o .h))))), none, .mov (.s (.i (.o (.o (.i .h))))), 0, true⟩,
    ⟨(some (.o (.i (.o (.i .h))))), none, .ext 0 (.s (.i (.o (.i (.o .h))))), 0, true⟩,
    ⟨(some (.i (.i (.o (.i .h))))), none, .ext 1 (.s (.i (.o (.i (.o .h))))), 0, true⟩,
    ⟨(some (.o (.i .h))), none, .alloc [(.int .i64 0), (.str []), (.str []), .nils, (.str []), .nils, .nils, .nils, .nils, .nils, .nils, .nils, (.int .i64 0), .nils, .nils, (.int .i64 0), (.str []), (.int .i64 0), (.int .i64 0), (.str []), (.int .i64 0)], 0, true⟩,
    ⟨none, none, .store 21 (.s (.o (.i .h))) (.s (.o (.i (.o (.i .h))))), 0, true⟩,
    ⟨(some (.i (.i .h))), none, .mov (.s (.i (.i (.o (.i .h))))), 0, true⟩] 0)
   (.seq (.reg [⟨(some (.o (.o (.i (.i .h))))), none, .load true 15 (.s (.o .h)), 0, true⟩,
    ⟨(some (.i (.o (.i (.i .h))))), none, .load true 21 (.s (.o (.o .h))), 0, true⟩,
    ⟨(some (.o (.i (.i (.i .h))))), none, .call (.i (.i (.o .h))) [(.s (.o (.o (.i (.i .h))))), (.s (.i (.o (.i (.i .h))))), (.c (.bool false)), (.c (.int .i64 0))], 0, true⟩,
    ⟨(some (.o (.o (.o .h)))), none, .alloc [(.int .i64 0), (.int .i64 0), (.str []), (.bool false), (.bool false), (.int .i64 0)], 0, true⟩,
    ⟨none, none, .store 6 (.s (.o (.o (.o .h)))) (.s (.o (.i (.i (.i .h))))), 0, true⟩] 0)
   (.seq (.reg [⟨(some (.i (.i (.i (.i .h))))), none, .load true 15 (.s (.o .h)), 0, true⟩,
    ⟨(some (.o (.o (.o (.o (.o .h)))))), none, .call (.o (.o (.i .h))) [(.s (.i (.i (.i (.i .h)))))], 0, true⟩,
    ⟨(some (.i (.o (.o (.o (.o .h)))))), none, .mov (.s (.o (.o (.o (.o (.o .h)))))), 0, true⟩,
    ⟨(some (.o (.i (.o (.o (.o .h)))))), (some ((.i (.o (.o (.o (.o .h))))), true)), .build [(.bool false), .nils, .nils, .nils, (.str []), .nils, (.str []), (.int .i64 0), (.str []), .nils, (.str []), (.int .i64 0), (.int .i64 0), (.int .i64 0), (.int .i64 0)] [], 0, true⟩,
    ⟨(some (.i (.i (.o (.o (.o .h)))))), (some ((.i (.o (.o (.o (.o .h))))), true)), .call (.o (.o (.i .h))) [(.s (.o (.i (.o (.o (.o .h))))))], 0, true⟩,
    ⟨(some (.o (.o (.i (.o (.o .h)))))), (some ((.i (.o (.o (.o (.o .h))))), true)), .un .not (.s (.i (.i (.o (.o (.o .h)))))), 0, true⟩,
    ⟨(some (.i (.o (.i (.o (.o .h)))))), none, .pick (.s (.i (.o (.o (.o (.o .h)))))) (.s (.o (.o (.i (.o (.o .h)))))) (.c (.bool false)), 0, true⟩,
    ⟨(some (.o (.i (.i (.o (.o .h)))))), none, .mov (.s (.i (.o (.i (.o (.o .h)))))), 0, true⟩,
    ⟨(some (.i (.i (.i (.o (.o .h)))))), (some ((.o (.i (.i (.o (.o .h))))), true)), .mov (.s (.i (.o .h))), 0, true⟩,
    ⟨(some (.o (.o (.o (.i (.o .h)))))), (some ((.o (.i (.i (.o (.o .h))))), true)), .call (.o (.i (.o (.o .h)))) [(.s (.i (.i (.i (.o (.o .h))))))], 0, true⟩,
    ⟨(some (.i (.o (.o (.i (.o .h)))))), (some ((.o (.i (.i (.o (.o .h))))), true)), .bin .eql (.s (.o (.o (.o (.i (.o .h)))))) (.c (.int .i64 0)), 0, true⟩,
    ⟨(some (.o (.i (.o (.i (.o .h)))))), none, .pick (.s (.o (.i (.i (.o (.o .h)))))) (.s (.i (.o (.o (.i (.o .h)))))) (.c (.bool false)), 0, true⟩,
    ⟨(some (.i (.i (.o (.i (.o .h)))))), none, .mov (.s (.o (.i (.o (.i (.o .h)))))), 0, true⟩,
    ⟨(some (.o (.o (.i (.i (.o .h)))))), (some ((.i (.i (.o (.i (.o .h))))), true)), .lea 0 (.s (.o (.o .h))), 0, true⟩,
    ⟨(some (.i (.o (.i (.i (.o .h)))))), (some ((.i (.i (.o (.i (.o .h))))), true)), .load false 1 (.s (.o (.o (.i (.i (.o .h)))))), 0, true⟩,
    ⟨(some (.o (.i (.i (.i (.o .h)))))), (some ((.i (.i (.o (.i (.o .h))))), true)), .bin .eql (.s (.i (.o (.i (.i (.o .h)))))) (.c (.int .i64 1)), 0, true⟩,
    ⟨(some (.i (.i (.i (.i (.o .h)))))), none, .pick (.s (.i (.i (.o (.i (.o .h)))))) (.s (.o (.i (.i (.i (.o .h)))))) (.c (.bool false)), 0, true⟩,
    ⟨(some (.o (.o (.o (.o (.i .h)))))), none, .mov (.s (.i (.i (.i (.i (.o .h)))))), 0, true⟩,
    ⟨(some (.i (.o (.o (.o (.i .h)))))), (some ((.o (.o (.o (.o (.i .h))))), true)), .lea 9 (.s (.o (.o .h))), 0, true⟩,
    ⟨(some (.o (.i (.o (.o (.i .h)))))), (some ((.o (.o (.o (.o (.i .h))))), true)), .load false 1 (.s (.i (.o (.o (.o (.i .h)))))), 0, true⟩,
    ⟨(some (.i (.i (.o (.o (.i .h)))))), (some ((.o (.o (.o (.o (.i .h))))), true)), .len (.s (.o (.i (.o (.o (.i .h)))))), 0, true⟩,
    ⟨(some (.o (.o (.i (.o (.i .h)))))), (some ((.o (.o (.o (.o (.i .h))))), true)), .bin .eql (.s (.i (.i (.o (.o (.i .h)))))) (.c (.int .i64 1)), 0, true⟩,
    ⟨(some (.i (.o (.i (.o (.i .h)))))), none, .pick (.s (.o (.o (.o (.o (.i .h)))))) (.s (.o (.o (.i (.o (.i .h)))))) (.c (.bool false)), 0, true⟩,
    ⟨(some (.o (.i (.i (.o (.i .h)))))), none, .mov (.s (.i (.o (.i (.o (.i .h)))))), 0, true⟩,
    ⟨(some (.i (.i (.i (.o (.i .h)))))), (some ((.o (.i (.i (.o (.i .h))))), true)), .mov (.s (.i (.i .h))), 0, true⟩,
    ⟨(some (.o (.o (.o (.i (.i .h)))))), (some ((.o (.i (.i (.o (.i .h))))), true)), .call (.o (.i (.o (.o .h)))) [(.s (.i (.i (.i (.o (.i .h))))))], 0, true⟩,
    ⟨(some (.i (.o (.o (.i (.i .h)))))), (some ((.o (.i (.i (.o (.i .h))))), true)), .bin .eql (.s (.o (.o (.o (.i (.i .h)))))) (.c (.int .i64 2400)), 0, true⟩,
    ⟨(some (.o (.i (.o (.i (.i .h)))))), none, .pick (.s (.o (.i (.i (.o (.i .h)))))) (.s (.i (.o (.o (.i (.i .h)))))) (.c (.bool false)), 0, true⟩,
    ⟨(some (.i (.i (.o (.i (.i .h)))))), none, .mov (.s (.o (.i (.o (.i (.i .h)))))), 0, true⟩,
    ⟨(some (.o (.o (.i (.i (.i .h)))))), (some ((.i (.i (.o (.i (.i .h))))), true)), .load true 6 (.s (.o (.o (.o .h)))), 0, true⟩,
    ⟨(some (.i (.o (.i (.i (.i .h)))))), (some ((.i (.i (.o (.i (.i .h))))), true)), .build [(.int .i64 0), (.int .i64 0), (.str []), (.bool false), (.bool false), (.int .i64 0)] [(5, 1, (.c (.int .i64 40)))], 0, true⟩,
    ⟨(some (.o (.i (.i (.i (.i .h)))))), (some ((.i (.i (.o (.i (.i .h))))), true)), .eqs false [.i, .i, .s, .b, .b, .i] (.s (.o (.o (.i (.i (.i .h)))))) (.s (.i (.o (.i (.i (.i .h)))))), 0, true⟩,
    ⟨(some (.i (.i (.i (.i (.i .h)))))), none, .pick (.s (.i (.i (.o (.i (.i .h)))))) (.s (.o (.i (.i (.i (.i .h)))))) (.c (.bool false)), 0, true⟩,
    ⟨(some .h), none, .mov (.s (.i (.i (.i (.i (.i .h)))))), 0, true⟩] 0)
   .ret))))))) }

/-- halberd/halberdlaw24.Client -/
noncomputable def d13 : Go.AE.Fd := { np := 0, res := [.cell .h true 15], code :=
   (.seq (.reg [⟨(some .h), none, .alloc [(.bool false), .nils, .nils, .nils, (.str []), .nils, (.str []), (.int .i64 0), (.str []), .nils, (.str []), (.int .i64 0), (.int .i64 0), (.int .i64 0), (.int .i64 0)], 0, true⟩] 0)
   (.seq (.reg [⟨(some (.o .h)), none, .bsl 1 2 [(.int .i64 0), (.int .i64 0)] [(0, 1, (.c (.int .i64 4865))), (1, 1, (.c (.int .i64 4867)))], 0, true⟩,
    ⟨(some (.i .h)), none, .bsl 1 2 [(.int .i64 0), (.int .i64 0)] [(0, 1, (.c (.int .i64 29))), (1, 1, (.c (.int .i64 23)))], 0, true⟩,
    ⟨(some (.o (.o .h))), none, .build [(.bool false), .nils, .nils, .nils, (.str []), .nils, (.str []), (.int .i64 0), (.str []), .nils, (.str []), (.int .i64 0), (.int .i64 0), (.int .i64 0), (.int .i64 0)] [(1, 1, (.s (.o .h))), (2, 1, (.s (.i .h))), (6, 1, (.c (.str [97]))), (11, 1, (.c (.int .i64 1000))), (13, 1, (.c (.int .i64 10))), (14, 1, (.c (.int .i64 33290)))], 0, true⟩,
    ⟨none, none, .store 15 (.s .h) (.s (.o (.o .h))), 0, true⟩] 0)
   .ret)) }

/-- halberd/halberdlaw24.z -/
noncomputable def d15 : Go.AE.Fd := { np := 1, res := [.tmp (.i .h)], code :=
   (.seq (.reg [⟨(some (.i .h)), none, .mov (.c (.str [])), 0, true⟩] 0)
   (.seq (.reg [⟨(some (.o (.o .h))), none, .mov (.s .h), 0, true⟩,
    ⟨(some (.i (.o .h))), none, .mks 1 1 [(.int .u8 0)] (.s (.o (.o .h))) (.s (.o (.o .h))), 0, true⟩,
    ⟨(some (.o (.i .h))), none, .b2s (.s (.i (.o .h))), 0, true⟩,
    ⟨(some (.i .h)), none, .mov (.s (.o (.i .h))), 0, true⟩] 0)
   .ret)) }

/-- halberd/halberdlaw0.SameInts -/
noncomputable def d18 : Go.AE.Fd := { np := 2, res := [.tmp (.i (.o .h))], code :=
   (.seq (.reg [⟨(some (.i (.o .h))), none, .mov (.c (.bool false)), 0, true⟩] 0)
   (.seq (.seq (.reg [⟨(some (.i (.i .h))), none, .mov (.s .h), 0, true⟩,
    ⟨(some (.o (.o (.o .h)))), none, .len (.s (.i (.i .h))), 0, true⟩,
    ⟨(some (.i (.o (.o .h)))), none, .mov (.s (.o .h)), 0, true⟩,
    ⟨(some (.o (.i (.o .h)))), none, .len (.s (.i (.o (.o .h)))), 0, true⟩,
    ⟨(some (.i (.i (.o .h)))), none, .bin .neq (.s (.o (.o (.o .h)))) (.s (.o (.i (.o .h)))), 0, true⟩] 0)
   (.cond (.s (.i (.i (.o .h))))
   (.seq (.reg [⟨(some (.i (.o .h))), none, .mov (.c (.bool false)), 0, true⟩] 0)
   .ret)
   .skip))
   (.seq (.seq (.reg [⟨(some (.o (.i .h))), none, .mov (.c (.int .i64 0)), 0, true⟩] 0)
   (.block 0 (.loop (.seq (.seq (.reg [⟨(some (.o (.o (.i .h)))), none, .mov (.s (.o (.i .h))), 0, true⟩,
    ⟨(some (.i (.o (.i .h)))), none, .mov (.s .h), 0, true⟩,
    ⟨(some (.o (.i (.i .h)))), none, .len (.s (.i (.o (.i .h)))), 0, true⟩,
    ⟨(some (.i (.i (.i .h)))), none, .bin .lss (.s (.o (.o (.i .h)))) (.s (.o (.i (.i .h)))), 0, true⟩] 0)
   (.cond (.s (.i (.i (.i .h))))
   .skip
   (.exit 0)))
   (.seq (.block 1 (.seq (.reg [⟨(some (.o (.i (.o (.o .h))))), none, .mov (.s .h), 0, false⟩,
    ⟨(some (.i (.i (.o (.o .h))))), none, .mov (.s (.o (.i .h))), 0, false⟩,
    ⟨(some (.o (.o (.i (.o .h))))), none, .ixS 1 (.s (.o (.i (.o (.o .h))))) (.s (.i (.i (.o (.o .h))))), 0, false⟩,
    ⟨(some (.i (.o (.i (.o .h))))), none, .load false 1 (.s (.o (.o (.i (.o .h))))), 0, false⟩,
    ⟨(some (.o (.i (.i (.o .h))))), none, .mov (.s (.o .h)), 0, false⟩,
    ⟨(some (.i (.i (.i (.o .h))))), none, .mov (.s (.o (.i .h))), 0, false⟩,
    ⟨(some (.o (.o (.o (.i .h))))), none, .ixS 1 (.s (.o (.i (.i (.o .h))))) (.s (.i (.i (.i (.o .h))))), 0, false⟩,
    ⟨(some (.i (.o (.o (.i .h))))), none, .load false 1 (.s (.o (.o (.o (.i .h))))), 0, false⟩,
    ⟨(some (.o (.i (.o (.i .h))))), none, .bin .neq (.s (.i (.o (.i (.o .h))))) (.s (.i (.o (.o (.i .h))))), 0, false⟩] 0)
   (.cond (.s (.o (.i (.o (.i .h)))))
   (.seq (.reg [⟨(some (.i (.o .h))), none, .mov (.c (.bool false)), 0, true⟩] 0)
   .ret)
   .skip)))
   (.reg [⟨(some (.o (.o (.o (.o .h))))), none, .mov (.s (.o (.i .h))), 0, true⟩,
    ⟨(some (.i (.o (.o (.o .h))))), none, .bin .add (.s (.o (.o (.o (.o .h))))) (.c (.int .i64 1)), 0, true⟩,
    ⟨(some (.o (.i .h))), none, .mov (.s (.i (.o (.o (.o .h))))), 0, true⟩] 0))))))
   (.seq (.reg [⟨(some (.i (.o .h))), none, .mov (.c (.bool true)), 0, true⟩] 0)
   .ret)))) }

/-- halberd/halberdlaw0.SameTexts -/
noncomputable def d19 : Go.AE.Fd := { np := 2, res := [.tmp (.i (.o .h))], code :=
   (.seq (.reg [⟨(some (.i (.o .h))), none, .mov (.c (.bool false)), 0, true⟩] 0)
   (.seq (.seq (.reg [⟨(some (.i (.i .h))), none, .mov (.s .h), 0, true⟩,
    ⟨(some (.o (.o (.o .h)))), none, .len (.s (.i (.i .h))), 0, true⟩,
    ⟨(some (.i (.o (.o .h)))), none, .mov (.s (.o .h)), 0, true⟩,
    ⟨(some (.o (.i (.o .h)))), none, .len (.s (.i (.o (.o .h)))), 0, true⟩,
    ⟨(some (.i (.i (.o .h)))), none, .bin .neq (.s (.o (.o (.o .h)))) (.s (.o (.i (.o .h)))), 0, true⟩] 0)
   (.cond (.s (.i (.i (.o .h))))
   (.seq (.reg [⟨(some (.i (.o .h))), none, .mov (.c (.bool false)), 0, true⟩] 0)
   .ret)
   .skip))
   (.seq (.seq (.reg [⟨(some (.o (.i .h))), none, .mov (.c (.int .i64 0)), 0, true⟩] 0)
   (.block 0 (.loop (.seq (.seq (.reg [⟨(some (.o (.o (.i .h)))), none, .mov (.s (.o (.i .h))), 0, true⟩,
    ⟨(some (.i (.o (.i .h)))), none, .mov (.s .h), 0, true⟩,
    ⟨(some (.o (.i (.i .h)))), none, .len (.s (.i (.o (.i .h)))), 0, true⟩,
    ⟨(some (.i (.i (.i .h)))), none, .bin .lss (.s (.o (.o (.i .h)))) (.s (.o (.i (.i .h)))), 0, true⟩] 0)
   (.cond (.s (.i (.i (.i .h))))
   .skip
   (.exit 0)))
   (.seq (.block 1 (.seq (.reg [⟨(some (.o (.i (.o (.o .h))))), none, .mov (.s .h), 0, false⟩,
    ⟨(some (.i (.i (.o (.o .h))))), none, .mov (.s (.o (.i .h))), 0, false⟩,
    ⟨(some (.o (.o (.i (.o .h))))), none, .ixS 1 (.s (.o (.i (.o (.o .h))))) (.s (.i (.i (.o (.o .h))))), 0, false⟩,
    ⟨(some (.i (.o (.i (.o .h))))), none, .load false 1 (.s (.o (.o (.i (.o .h))))), 0, false⟩,
    ⟨(some (.o (.i (.i (.o .h))))), none, .mov (.s (.o .h)), 0, false⟩,
    ⟨(some (.i (.i (.i (.o .h))))), none, .mov (.s (.o (.i .h))), 0, false⟩,
    ⟨(some (.o (.o (.o (.i .h))))), none, .ixS 1 (.s (.o (.i (.i (.o .h))))) (.s (.i (.i (.i (.o .h))))), 0, false⟩,
    ⟨(some (.i (.o (.o (.i .h))))), none, .load false 1 (.s (.o (.o (.o (.i .h))))), 0, false⟩,
    ⟨(some (.o (.i (.o (.i .h))))), none, .bin .neq (.s (.i (.o (.i (.o .h))))) (.s (.i (.o (.o (.i .h))))), 0, false⟩] 0)
   (.cond (.s (.o (.i (.o (.i .h)))))
   (.seq (.reg [⟨(some (.i (.o .h))), none, .mov (.c (.bool false)), 0, true⟩] 0)
   .ret)
   .skip)))
   (.reg [⟨(some (.o (.o (.o (.o .h))))), none, .mov (.s (.o (.i .h))), 0, true⟩,
    ⟨(some (.i (.o (.o (.o .h))))), none, .bin .add (.s (.o (.o (.o (.o .h))))) (.c (.int .i64 1)), 0, true⟩,
    ⟨(some (.o (.i .h))), none, .mov (.s (.i (.o (.o (.o .h))))), 0, true⟩] 0))))))
   (.seq (.reg [⟨(some (.i (.o .h))), none, .mov (.c (.bool true)), 0, true⟩] 0)
   .ret)))) }

/-- halberd/halberdlaw24.HelloAges -/
noncomputable def d5 : Go.AE.Fd := { np := 4, res := [.tmp (.i (.o (.o .h)))], code :=
   (.seq (.reg [⟨(some (.i (.o (.o .h)))), none, .mov (.c (.bool false)), 0, true⟩] 0)
   (.seq (.seq (.reg [⟨(some (.o (.o (.o (.o .h))))), none, .call (.o (.i (.o .h))) [], 0, true⟩,
    ⟨(some (.i (.o (.o (.o .h))))), none, .un .not (.s (.o (.o (.o (.o .h))))), 0, true⟩] 0)
   (.cond (.s (.i (.o (.o (.o .h)))))
   (.seq (.reg [⟨(some (.i (.o (.o .h)))), none, .mov (.c (.bool false)), 0, true⟩] 0)
   .ret)
   .skip))
   (.seq (.reg [⟨(some (.o (.i (.o (.o .h))))), none, .call (.o (.i (.i .h))) [], 0, true⟩,
    ⟨(some (.o (.i (.o .h)))), none, .alloc [(.bool false), .nils, .nils, .nils, (.str []), .nils, (.str []), (.int .i64 0), (.str []), .nils, (.str []), (.int .i64 0), (.int .i64 0), (.int .i64 0), (.int .i64 0)], 0, true⟩,
    ⟨none, none, .store 15 (.s (.o (.i (.o .h)))) (.s (.o (.i (.o (.o .h))))), 0, true⟩] 0)
   (.seq (.reg [⟨(some (.i (.i (.o (.o .h))))), none, .mov (.s (.i .h)), 0, true⟩,
    ⟨(some (.o (.o (.i (.o .h))))), none, .bin .and (.s (.i (.i (.o (.o .h))))) (.c (.int .i64 4294967295)), 0, true⟩,
    ⟨(some (.i (.o (.i (.o .h))))), none, .lea 11 (.s (.o (.i (.o .h)))), 0, true⟩,
    ⟨none, none, .store 1 (.s (.i (.o (.i (.o .h))))) (.s (.o (.o (.i (.o .h))))), 0, true⟩] 0)
   (.seq (.reg [⟨(some (.o (.i (.i (.o .h))))), none, .mov (.s .h), 0, true⟩,
    ⟨(some (.i (.i (.i (.o .h))))), none, .bin .and (.s (.o (.i (.i (.o .h))))) (.c (.int .i64 4294967295)), 0, true⟩,
    ⟨(some (.o (.o (.o (.i .h))))), none, .mov (.s (.o .h)), 0, true⟩,
    ⟨(some (.i (.o (.o (.i .h))))), none, .conv .u64 (.s (.o (.o (.o (.i .h))))), 0, true⟩,
    ⟨(some (.o (.i (.o (.i .h))))), none, .bin .rem (.s (.i (.o (.o (.i .h))))) (.c (.int .u64 604801)), 0, true⟩,
    ⟨(some (.i (.i (.o (.i .h))))), none, .conv .i64 (.s (.o (.i (.o (.i .h))))), 0, true⟩,
    ⟨(some (.i (.i (.o .h)))), none, .mov (.s (.i (.i (.i (.o .h))))), 0, true⟩,
    ⟨(some (.o (.o (.i .h)))), none, .mov (.s (.i (.i (.o (.i .h))))), 0, true⟩] 0)
   (.seq (.seq (.reg [⟨(some (.o (.o (.i (.i .h))))), none, .mov (.s (.o .h)), 0, true⟩,
    ⟨(some (.i (.o (.i (.i .h))))), none, .bin .and (.s (.o (.o (.i (.i .h))))) (.c (.int .i64 1)), 0, true⟩,
    ⟨(some (.o (.i (.i (.i .h))))), none, .bin .eql (.s (.i (.o (.i (.i .h))))) (.c (.int .i64 1)), 0, true⟩] 0)
   (.cond (.s (.o (.i (.i (.i .h)))))
   (.reg [⟨(some (.i (.i (.i (.i .h))))), none, .lea 11 (.s (.o (.i (.o .h)))), 0, true⟩,
    ⟨(some (.o (.o (.o (.o (.o .h)))))), none, .load false 1 (.s (.i (.i (.i (.i .h))))), 0, true⟩,
    ⟨(some (.i (.o (.o (.o (.o .h)))))), none, .mov (.s (.o (.o (.i .h)))), 0, true⟩,
    ⟨(some (.o (.i (.o (.o (.o .h)))))), none, .bin .sub (.s (.o (.o (.o (.o (.o .h)))))) (.s (.i (.o (.o (.o (.o .h)))))), 0, true⟩,
    ⟨(some (.i (.i (.o (.o (.o .h)))))), none, .mov (.s .h), 0, true⟩,
    ⟨(some (.o (.o (.i (.o (.o .h)))))), none, .bin .and (.s (.i (.i (.o (.o (.o .h)))))) (.c (.int .i64 3)), 0, true⟩,
    ⟨(some (.i (.o (.i (.o (.o .h)))))), none, .bin .add (.s (.o (.i (.o (.o (.o .h)))))) (.s (.o (.o (.i (.o (.o .h)))))), 0, true⟩,
    ⟨(some (.o (.i (.i (.o (.o .h)))))), none, .bin .sub (.s (.i (.o (.i (.o (.o .h)))))) (.c (.int .i64 1)), 0, true⟩,
    ⟨(some (.i (.i (.i (.o (.o .h)))))), none, .mm true (.c (.int .i64 0)) (.s (.o (.i (.i (.o (.o .h)))))), 0, true⟩,
    ⟨(some (.o (.o (.o (.i (.o .h)))))), none, .mm false (.s (.i (.i (.i (.o (.o .h)))))) (.c (.int .i64 4294967295)), 0, true⟩,
    ⟨(some (.i (.i (.o .h)))), none, .mov (.s (.o (.o (.o (.i (.o .h)))))), 0, true⟩] 0)
   .skip))
   (.seq (.reg [⟨(some (.i (.o (.o (.i (.o .h)))))), none, .call (.o (.o (.o (.o .h)))) [(.c (.int .i64 32))], 0, true⟩,
    ⟨(some (.o (.i (.o (.i (.o .h)))))), none, .mov (.s (.o (.o .h))), 0, true⟩,
    ⟨(some (.i (.i (.o (.i (.o .h)))))), none, .bin .and (.s (.o (.i (.o (.i (.o .h)))))) (.c (.int .i64 4294967295)), 0, true⟩,
    ⟨(some (.o (.o (.i (.i (.o .h)))))), none, .mov (.s (.i (.i (.o .h)))), 0, true⟩,
    ⟨(some (.i (.o (.i (.i (.o .h)))))), none, .mov (.s (.o (.o (.i .h)))), 0, true⟩,
    ⟨(some (.o (.i (.i (.i (.o .h)))))), none, .build [(.str []), (.str []), (.int .i64 0), (.int .i64 0), (.int .i64 0), (.int .i64 0)] [(0, 1, (.c (.str [116]))), (1, 1, (.s (.i (.o (.o (.i (.o .h))))))), (2, 1, (.c (.int .i64 4867))), (3, 1, (.s (.i (.i (.o (.i (.o .h))))))), (4, 1, (.s (.o (.o (.i (.i (.o .h))))))), (5, 1, (.s (.i (.o (.i (.i (.o .h)))))))], 0, true⟩,
    ⟨(some (.i (.i (.i (.i (.o .h)))))), none, .bsl 6 1 [(.str []), (.str []), (.int .i64 0), (.int .i64 0), (.int .i64 0), (.int .i64 0)] [(0, 6, (.s (.o (.i (.i (.i (.o .h)))))))], 0, true⟩,
    ⟨(some (.o (.o (.o (.o (.i .h)))))), none, .lea 9 (.s (.o (.i (.o .h)))), 0, true⟩,
    ⟨none, none, .store 1 (.s (.o (.o (.o (.o (.i .h)))))) (.s (.i (.i (.i (.i (.o .h)))))), 0, true⟩] 0)
   (.seq (.reg [⟨(some (.o (.i (.o (.o (.i .h)))))), none, .load true 15 (.s (.o (.i (.o .h)))), 0, false⟩,
    ⟨(some (.i (.i (.o (.o (.i .h)))))), none, .call (.o (.o (.o (.o .h)))) [(.c (.int .i64 32))], 0, false⟩,
    ⟨(some (.o (.o (.i (.o (.i .h)))))), none, .call (.o (.o (.o (.o .h)))) [(.c (.int .i64 32))], 0, false⟩,
    ⟨(some (.i (.o (.i (.o (.i .h)))))), none, .call (.i (.o (.o (.o .h)))) [(.s (.o (.i (.o (.o (.i .h)))))), (.s (.i (.i (.o (.o (.i .h)))))), (.s (.o (.o (.i (.o (.i .h)))))), (.c (.str [107]))], 0, false⟩,
    ⟨(some (.i (.o (.o (.o (.i .h)))))), none, .mov (.s (.i (.o (.i (.o (.i .h)))))), 0, false⟩,
    ⟨(some (.o (.i (.i (.o (.i .h)))))), none, .ext 0 (.s (.i (.o (.o (.o (.i .h)))))), 0, false⟩,
    ⟨(some (.i (.i (.i (.o (.i .h)))))), none, .ext 1 (.s (.i (.o (.o (.o (.i .h)))))), 0, false⟩,
    ⟨(some (.i (.o (.i .h)))), none, .alloc [(.int .i64 0), (.str []), (.str []), .nils, (.str []), .nils, .nils, .nils, .nils, .nils, .nils, .nils, (.int .i64 0), .nils, .nils, (.int .i64 0), (.str []), (.int .i64 0), (.int .i64 0), (.str []), (.int .i64 0)], 48, false⟩,
    ⟨none, none, .store 21 (.s (.i (.o (.i .h)))) (.s (.o (.i (.i (.o (.i .h)))))), 0, false⟩,
    ⟨(some (.o (.i (.i .h)))), none, .mov (.s (.i (.i (.i (.o (.i .h)))))), 0, false⟩] 49)
   (.seq (.seq (.reg [⟨(some (.o (.o (.o (.i (.i .h)))))), none, .mov (.s (.o (.i (.i .h)))), 0, true⟩,
    ⟨(some (.i (.o (.o (.i (.i .h)))))), none, .call (.o (.i (.o (.o .h)))) [(.s (.o (.o (.o (.i (.i .h))))))], 0, true⟩,
    ⟨(some (.o (.i (.o (.i (.i .h)))))), none, .bin .neq (.s (.i (.o (.o (.i (.i .h)))))) (.c (.int .i64 0)), 0, true⟩,
    ⟨(some (.i (.i (.o (.i (.i .h)))))), none, .mov (.s (.o (.i (.o (.i (.i .h)))))), 0, true⟩,
    ⟨(some (.o (.o (.i (.i (.i .h)))))), (some ((.i (.i (.o (.i (.i .h))))), false)), .lea 3 (.s (.i (.o (.i .h)))), 0, true⟩,
    ⟨(some (.i (.o (.i (.i (.i .h)))))), (some ((.i (.i (.o (.i (.i .h))))), false)), .load false 1 (.s (.o (.o (.i (.i (.i .h)))))), 0, true⟩,
    ⟨(some (.o (.i (.i (.i (.i .h)))))), (some ((.i (.i (.o (.i (.i .h))))), false)), .lea 1 (.s (.o (.i (.o .h)))), 0, true⟩,
    ⟨(some (.i (.i (.i (.i (.i .h)))))), (some ((.i (.i (.o (.i (.i .h))))), false)), .load false 1 (.s (.o (.i (.i (.i (.i .h)))))), 0, true⟩,
    ⟨(some (.o (.o (.o (.o (.o (.o .h))))))), (some ((.i (.i (.o (.i (.i .h))))), false)), .call (.i (.i (.o (.o .h)))) [(.s (.i (.o (.i (.i (.i .h)))))), (.s (.i (.i (.i (.i (.i .h))))))], 0, true⟩,
    ⟨(some (.i (.o (.o (.o (.o (.o .h))))))), (some ((.i (.i (.o (.i (.i .h))))), false)), .un .not (.s (.o (.o (.o (.o (.o (.o .h))))))), 0, true⟩,
    ⟨(some (.o (.i (.o (.o (.o (.o .h))))))), none, .pick (.s (.i (.i (.o (.i (.i .h)))))) (.c (.bool true)) (.s (.i (.o (.o (.o (.o (.o .h))))))), 0, true⟩,
    ⟨(some (.i (.i (.o (.o (.o (.o .h))))))), none, .mov (.s (.o (.i (.o (.o (.o (.o .h))))))), 0, true⟩,
    ⟨(some (.o (.o (.i (.o (.o (.o .h))))))), (some ((.i (.i (.o (.o (.o (.o .h)))))), false)), .lea 6 (.s (.i (.o (.i .h)))), 0, true⟩,
    ⟨(some (.i (.o (.i (.o (.o (.o .h))))))), (some ((.i (.i (.o (.o (.o (.o .h)))))), false)), .load false 1 (.s (.o (.o (.i (.o (.o (.o .h))))))), 0, true⟩,
    ⟨(some (.o (.i (.i (.o (.o (.o .h))))))), (some ((.i (.i (.o (.o (.o (.o .h)))))), false)), .lea 2 (.s (.o (.i (.o .h)))), 0, true⟩,
    ⟨(some (.i (.i (.i (.o (.o (.o .h))))))), (some ((.i (.i (.o (.o (.o (.o .h)))))), false)), .load false 1 (.s (.o (.i (.i (.o (.o (.o .h))))))), 0, true⟩,
    ⟨(some (.o (.o (.o (.i (.o (.o .h))))))), (some ((.i (.i (.o (.o (.o (.o .h)))))), false)), .call (.i (.i (.o (.o .h)))) [(.s (.i (.o (.i (.o (.o (.o .h))))))), (.s (.i (.i (.i (.o (.o (.o .h)))))))], 0, true⟩,
    ⟨(some (.i (.o (.o (.i (.o (.o .h))))))), (some ((.i (.i (.o (.o (.o (.o .h)))))), false)), .un .not (.s (.o (.o (.o (.i (.o (.o .h))))))), 0, true⟩,
    ⟨(some (.o (.i (.o (.i (.o (.o .h))))))), none, .pick (.s (.i (.i (.o (.o (.o (.o .h))))))) (.c (.bool true)) (.s (.i (.o (.o (.i (.o (.o .h))))))), 0, true⟩,
    ⟨(some (.i (.i (.o (.i (.o (.o .h))))))), none, .mov (.s (.o (.i (.o (.i (.o (.o .h))))))), 0, true⟩,
    ⟨(some (.o (.o (.i (.i (.o (.o .h))))))), (some ((.i (.i (.o (.i (.o (.o .h)))))), false)), .lea 4 (.s (.i (.o (.i .h)))), 0, true⟩,
    ⟨(some (.i (.o (.i (.i (.o (.o .h))))))), (some ((.i (.i (.o (.i (.o (.o .h)))))), false)), .load false 1 (.s (.o (.o (.i (.i (.o (.o .h))))))), 0, true⟩,
    ⟨(some (.o (.i (.i (.i (.o (.o .h))))))), (some ((.i (.i (.o (.i (.o (.o .h)))))), false)), .bin .neq (.s (.i (.o (.i (.i (.o (.o .h))))))) (.c (.str [97])), 0, true⟩,
    ⟨(some (.i (.i (.i (.i (.o (.o .h))))))), none, .pick (.s (.i (.i (.o (.i (.o (.o .h))))))) (.c (.bool true)) (.s (.o (.i (.i (.i (.o (.o .h))))))), 0, true⟩,
    ⟨(some (.o (.o (.o (.o (.i (.o .h))))))), none, .mov (.s (.i (.i (.i (.i (.o (.o .h))))))), 0, true⟩,
    ⟨(some (.i (.o (.o (.o (.i (.o .h))))))), (some ((.o (.o (.o (.o (.i (.o .h)))))), false)), .lea 9 (.s (.i (.o (.i .h)))), 0, true⟩,
    ⟨(some (.o (.i (.o (.o (.i (.o .h))))))), (some ((.o (.o (.o (.o (.i (.o .h)))))), false)), .load false 1 (.s (.i (.o (.o (.o (.i (.o .h))))))), 0, true⟩,
    ⟨(some (.i (.i (.o (.o (.i (.o .h))))))), (some ((.o (.o (.o (.o (.i (.o .h)))))), false)), .len (.s (.o (.i (.o (.o (.i (.o .h))))))), 0, true⟩,
    ⟨(some (.o (.o (.i (.o (.i (.o .h))))))), (some ((.o (.o (.o (.o (.i (.o .h)))))), false)), .bin .neq (.s (.i (.i (.o (.o (.i (.o .h))))))) (.c (.int .i64 1)), 0, true⟩,
    ⟨(some (.i (.o (.i (.o (.i (.o .h))))))), none, .pick (.s (.o (.o (.o (.o (.i (.o .h))))))) (.c (.bool true)) (.s (.o (.o (.i (.o (.i (.o .h))))))), 0, true⟩,
    ⟨(some (.o (.i (.i (.o (.i (.o .h))))))), none, .mov (.s (.i (.o (.i (.o (.i (.o .h))))))), 0, true⟩,
    ⟨(some (.i (.i (.i (.o (.i (.o .h))))))), (some ((.o (.i (.i (.o (.i (.o .h)))))), false)), .lea 9 (.s (.i (.o (.i .h)))), 0, true⟩,
    ⟨(some (.o (.o (.o (.i (.i (.o .h))))))), (some ((.o (.i (.i (.o (.i (.o .h)))))), false)), .load false 1 (.s (.i (.i (.i (.o (.i (.o .h))))))), 0, true⟩,
    ⟨(some (.i (.o (.o (.i (.i (.o .h))))))), (some ((.o (.i (.i (.o (.i (.o .h)))))), false)), .ixS 2 (.s (.o (.o (.o (.i (.i (.o .h))))))) (.c (.int .i64 0)), 0, true⟩,
    ⟨(some (.o (.i (.o (.i (.i (.o .h))))))), (some ((.o (.i (.i (.o (.i (.o .h)))))), false)), .load true 2 (.s (.i (.o (.o (.i (.i (.o .h))))))), 0, true⟩,
    ⟨(some (.i (.i (.o (.i (.i (.o .h))))))), (some ((.o (.i (.i (.o (.i (.o .h)))))), false)), .build [(.int .i64 0), (.str [])] [(0, 1, (.c (.int .i64 29))), (1, 1, (.c (.str [107])))], 0, true⟩,
    ⟨(some (.o (.o (.i (.i (.i (.o .h))))))), (some ((.o (.i (.i (.o (.i (.o .h)))))), false)), .eqs true [.i, .s] (.s (.o (.i (.o (.i (.i (.o .h))))))) (.s (.i (.i (.o (.i (.i (.o .h))))))), 0, true⟩,
    ⟨(some (.i (.o (.i (.i (.i (.o .h))))))), none, .pick (.s (.o (.i (.i (.o (.i (.o .h))))))) (.c (.bool true)) (.s (.o (.o (.i (.i (.i (.o .h))))))), 0, true⟩] 0)
   (.cond (.s (.i (.o (.i (.i (.i (.o .h)))))))
   (.seq (.reg [⟨(some (.i (.o (.o .h)))), none, .mov (.c (.bool false)), 0, true⟩] 0)
   .ret)
   .skip))
   (.seq (.seq (.reg [⟨(some (.o (.i (.i (.i (.i (.o .h))))))), none, .mov (.s (.i (.i (.o .h)))), 0, true⟩,
    ⟨(some (.i (.i (.i (.i (.i (.o .h))))))), none, .lea 11 (.s (.o (.i (.o .h)))), 0, true⟩,
    ⟨(some (.o (.o (.o (.o (.o (.i .h))))))), none, .load false 1 (.s (.i (.i (.i (.i (.i (.o .h))))))), 0, true⟩,
    ⟨(some (.i (.o (.o (.o (.o (.i .h))))))), none, .bin .gtr (.s (.o (.i (.i (.i (.i (.o .h))))))) (.s (.o (.o (.o (.o (.o (.i .h))))))), 0, true⟩,
    ⟨(some (.o (.i (.o (.o (.o (.i .h))))))), none, .mov (.s (.i (.o (.o (.o (.o (.i .h))))))), 0, true⟩,
    ⟨(some (.i (.i (.o (.o (.o (.i .h))))))), (some ((.o (.i (.o (.o (.o (.i .h)))))), false)), .lea 11 (.s (.o (.i (.o .h)))), 0, true⟩,
    ⟨(some (.o (.o (.i (.o (.o (.i .h))))))), (some ((.o (.i (.o (.o (.o (.i .h)))))), false)), .load false 1 (.s (.i (.i (.o (.o (.o (.i .h))))))), 0, true⟩,
    ⟨(some (.i (.o (.i (.o (.o (.i .h))))))), (some ((.o (.i (.o (.o (.o (.i .h)))))), false)), .mov (.s (.i (.i (.o .h)))), 0, true⟩,
    ⟨(some (.o (.i (.i (.o (.o (.i .h))))))), (some ((.o (.i (.o (.o (.o (.i .h)))))), false)), .bin .sub (.s (.o (.o (.i (.o (.o (.i .h))))))) (.s (.i (.o (.i (.o (.o (.i .h))))))), 0, true⟩,
    ⟨(some (.i (.i (.i (.o (.o (.i .h))))))), (some ((.o (.i (.o (.o (.o (.i .h)))))), false)), .mov (.s (.o (.o (.i .h)))), 0, true⟩,
    ⟨(some (.o (.o (.o (.i (.o (.i .h))))))), (some ((.o (.i (.o (.o (.o (.i .h)))))), false)), .bin .gtr (.s (.o (.i (.i (.o (.o (.i .h))))))) (.s (.i (.i (.i (.o (.o (.i .h))))))), 0, true⟩,
    ⟨(some (.i (.o (.o (.i (.o (.i .h))))))), none, .pick (.s (.o (.i (.o (.o (.o (.i .h))))))) (.c (.bool true)) (.s (.o (.o (.o (.i (.o (.i .h))))))), 0, true⟩] 0)
   (.cond (.s (.i (.o (.o (.i (.o (.i .h)))))))
   (.seq (.reg [⟨(some (.o (.i (.o (.i (.o (.i .h))))))), none, .lea 10 (.s (.i (.o (.i .h)))), 0, true⟩,
    ⟨(some (.i (.i (.o (.i (.o (.i .h))))))), none, .load false 1 (.s (.o (.i (.o (.i (.o (.i .h))))))), 0, true⟩,
    ⟨(some (.o (.o (.i (.i (.o (.i .h))))))), none, .len (.s (.i (.i (.o (.i (.o (.i .h))))))), 0, true⟩,
    ⟨(some (.i (.o (.i (.i (.o (.i .h))))))), none, .bin .eql (.s (.o (.o (.i (.i (.o (.i .h))))))) (.c (.int .i64 0)), 0, true⟩,
    ⟨(some (.o (.i (.i (.i (.o (.i .h))))))), none, .mov (.s (.i (.o (.i (.i (.o (.i .h))))))), 0, true⟩,
    ⟨(some (.i (.i (.i (.i (.o (.i .h))))))), (some ((.o (.i (.i (.i (.o (.i .h)))))), true)), .lea 8 (.s (.i (.o (.i .h)))), 0, true⟩,
    ⟨(some (.o (.o (.o (.o (.i (.i .h))))))), (some ((.o (.i (.i (.i (.o (.i .h)))))), true)), .load false 1 (.s (.i (.i (.i (.i (.o (.i .h))))))), 0, true⟩,
    ⟨(some (.i (.o (.o (.o (.i (.i .h))))))), (some ((.o (.i (.i (.i (.o (.i .h)))))), true)), .len (.s (.o (.o (.o (.o (.i (.i .h))))))), 0, true⟩,
    ⟨(some (.o (.i (.o (.o (.i (.i .h))))))), (some ((.o (.i (.i (.i (.o (.i .h)))))), true)), .bin .eql (.s (.i (.o (.o (.o (.i (.i .h))))))) (.c (.int .i64 0)), 0, true⟩,
    ⟨(some (.i (.i (.o (.o (.i (.i .h))))))), none, .pick (.s (.o (.i (.i (.i (.o (.i .h))))))) (.s (.o (.i (.o (.o (.i (.i .h))))))) (.c (.bool false)), 0, true⟩,
    ⟨(some (.o (.o (.i (.o (.i (.i .h))))))), none, .mov (.s (.i (.i (.o (.o (.i (.i .h))))))), 0, true⟩,
    ⟨(some (.i (.o (.i (.o (.i (.i .h))))))), (some ((.o (.o (.i (.o (.i (.i .h)))))), true)), .lea 11 (.s (.i (.o (.i .h)))), 0, true⟩,
    ⟨(some (.o (.i (.i (.o (.i (.i .h))))))), (some ((.o (.o (.i (.o (.i (.i .h)))))), true)), .load false 1 (.s (.i (.o (.i (.o (.i (.i .h))))))), 0, true⟩,
    ⟨(some (.i (.i (.i (.o (.i (.i .h))))))), (some ((.o (.o (.i (.o (.i (.i .h)))))), true)), .len (.s (.o (.i (.i (.o (.i (.i .h))))))), 0, true⟩,
    ⟨(some (.o (.o (.o (.i (.i (.i .h))))))), (some ((.o (.o (.i (.o (.i (.i .h)))))), true)), .bin .eql (.s (.i (.i (.i (.o (.i (.i .h))))))) (.c (.int .i64 0)), 0, true⟩,
    ⟨(some (.i (.o (.o (.i (.i (.i .h))))))), none, .pick (.s (.o (.o (.i (.o (.i (.i .h))))))) (.s (.o (.o (.o (.i (.i (.i .h))))))) (.c (.bool false)), 0, true⟩,
    ⟨(some (.i (.o (.o .h)))), none, .mov (.s (.i (.o (.o (.i (.i (.i .h))))))), 0, true⟩] 0)
   .ret)
   .skip))
   (.seq (.reg [⟨(some (.o (.i (.o (.i (.i (.i .h))))))), none, .lea 11 (.s (.o (.i (.o .h)))), 0, true⟩,
    ⟨(some (.i (.i (.o (.i (.i (.i .h))))))), none, .load false 1 (.s (.o (.i (.o (.i (.i (.i .h))))))), 0, true⟩,
    ⟨(some (.o (.o (.i (.i (.i (.i .h))))))), none, .mov (.s (.i (.i (.o .h)))), 0, true⟩,
    ⟨(some (.i (.o (.i (.i (.i (.i .h))))))), none, .bin .sub (.s (.i (.i (.o (.i (.i (.i .h))))))) (.s (.o (.o (.i (.i (.i (.i .h))))))), 0, true⟩,
    ⟨(some (.o (.i (.i (.i (.i (.i .h))))))), none, .bin .mul (.s (.i (.o (.i (.i (.i (.i .h))))))) (.c (.int .i64 1000)), 0, true⟩,
    ⟨(some (.i (.i (.i (.i (.i (.i .h))))))), none, .mov (.s (.o (.o .h))), 0, true⟩,
    ⟨(some (.o (.o (.o (.o (.o (.o (.o .h)))))))), none, .bin .and (.s (.i (.i (.i (.i (.i (.i .h))))))) (.c (.int .i64 4294967295)), 0, true⟩,
    ⟨(some (.i (.o (.o (.o (.o (.o (.o .h)))))))), none, .bin .add (.s (.o (.i (.i (.i (.i (.i .h))))))) (.s (.o (.o (.o (.o (.o (.o (.o .h)))))))), 0, true⟩,
    ⟨(some (.o (.i (.o (.o (.o (.o (.o .h)))))))), none, .bin .and (.s (.i (.o (.o (.o (.o (.o (.o .h)))))))) (.c (.int .i64 4294967295)), 0, true⟩,
    ⟨(some (.i (.i (.i .h)))), none, .mov (.s (.o (.i (.o (.o (.o (.o (.o .h)))))))), 0, true⟩] 0)
   (.seq (.reg [⟨(some (.i (.i (.o (.o (.o (.o (.o .h)))))))), none, .lea 8 (.s (.i (.o (.i .h)))), 0, false⟩,
    ⟨(some (.o (.o (.i (.o (.o (.o (.o .h)))))))), none, .load false 1 (.s (.i (.i (.o (.o (.o (.o (.o .h)))))))), 0, false⟩,
    ⟨(some (.i (.o (.i (.o (.o (.o (.o .h)))))))), none, .bsl 1 1 [(.int .i64 0)] [(0, 1, (.c (.int .i64 1)))], 0, false⟩,
    ⟨(some (.o (.i (.i (.o (.o (.o (.o .h)))))))), none, .call (.i (.i (.o (.o .h)))) [(.s (.o (.o (.i (.o (.o (.o (.o .h)))))))), (.s (.i (.o (.i (.o (.o (.o (.o .h))))))))], 0, false⟩,
    ⟨(some (.i (.i (.i (.o (.o (.o (.o .h)))))))), none, .mov (.s (.o (.i (.i (.o (.o (.o (.o .h)))))))), 0, false⟩,
    ⟨(some (.o (.o (.o (.i (.o (.o (.o .h)))))))), (some ((.i (.i (.i (.o (.o (.o (.o .h))))))), true)), .lea 10 (.s (.i (.o (.i .h)))), 0, false⟩,
    ⟨(some (.i (.o (.o (.i (.o (.o (.o .h)))))))), (some ((.i (.i (.i (.o (.o (.o (.o .h))))))), true)), .load false 1 (.s (.o (.o (.o (.i (.o (.o (.o .h)))))))), 0, false⟩,
    ⟨(some (.o (.i (.o (.i (.o (.o (.o .h)))))))), (some ((.i (.i (.i (.o (.o (.o (.o .h))))))), true)), .len (.s (.i (.o (.o (.i (.o (.o (.o .h)))))))), 0, false⟩,
    ⟨(some (.i (.i (.o (.i (.o (.o (.o .h)))))))), (some ((.i (.i (.i (.o (.o (.o (.o .h))))))), true)), .bin .eql (.s (.o (.i (.o (.i (.o (.o (.o .h)))))))) (.c (.int .i64 1)), 0, false⟩,
    ⟨(some (.o (.o (.i (.i (.o (.o (.o .h)))))))), none, .pick (.s (.i (.i (.i (.o (.o (.o (.o .h)))))))) (.s (.i (.i (.o (.i (.o (.o (.o .h)))))))) (.c (.bool false)), 0, false⟩,
    ⟨(some (.i (.o (.i (.i (.o (.o (.o .h)))))))), none, .mov (.s (.o (.o (.i (.i (.o (.o (.o .h)))))))), 0, false⟩,
    ⟨(some (.o (.i (.i (.i (.o (.o (.o .h)))))))), (some ((.i (.o (.i (.i (.o (.o (.o .h))))))), true)), .lea 10 (.s (.i (.o (.i .h)))), 0, false⟩,
    ⟨(some (.i (.i (.i (.i (.o (.o (.o .h)))))))), (some ((.i (.o (.i (.i (.o (.o (.o .h))))))), true)), .load false 1 (.s (.o (.i (.i (.i (.o (.o (.o .h)))))))), 0, false⟩,
    ⟨(some (.o (.o (.o (.o (.i (.o (.o .h)))))))), (some ((.i (.o (.i (.i (.o (.o (.o .h))))))), true)), .ixS 2 (.s (.i (.i (.i (.i (.o (.o (.o .h)))))))) (.c (.int .i64 0)), 0, false⟩,
    ⟨(some (.i (.o (.o (.o (.i (.o (.o .h)))))))), (some ((.i (.o (.i (.i (.o (.o (.o .h))))))), true)), .load true 2 (.s (.o (.o (.o (.o (.i (.o (.o .h)))))))), 0, false⟩,
    ⟨(some (.o (.i (.o (.o (.i (.o (.o .h)))))))), (some ((.i (.o (.i (.i (.o (.o (.o .h))))))), true)), .mov (.s (.i (.i (.i .h)))), 0, false⟩,
    ⟨(some (.i (.i (.o (.o (.i (.o (.o .h)))))))), (some ((.i (.o (.i (.i (.o (.o (.o .h))))))), true)), .build [(.str []), (.int .i64 0)] [(0, 1, (.c (.str [116]))), (1, 1, (.s (.o (.i (.o (.o (.i (.o (.o .h)))))))))], 0, false⟩,
    ⟨(some (.o (.o (.i (.o (.i (.o (.o .h)))))))), (some ((.i (.o (.i (.i (.o (.o (.o .h))))))), true)), .eqs false [.s, .i] (.s (.i (.o (.o (.o (.i (.o (.o .h)))))))) (.s (.i (.i (.o (.o (.i (.o (.o .h)))))))), 0, false⟩,
    ⟨(some (.i (.o (.i (.o (.i (.o (.o .h)))))))), none, .pick (.s (.i (.o (.i (.i (.o (.o (.o .h)))))))) (.s (.o (.o (.i (.o (.i (.o (.o .h)))))))) (.c (.bool false)), 0, false⟩,
    ⟨(some (.o (.i (.i (.o (.i (.o (.o .h)))))))), none, .mov (.s (.i (.o (.i (.o (.i (.o (.o .h)))))))), 0, false⟩,
    ⟨(some (.i (.i (.i (.o (.i (.o (.o .h)))))))), (some ((.o (.i (.i (.o (.i (.o (.o .h))))))), true)), .lea 11 (.s (.i (.o (.i .h)))), 0, false⟩,
    ⟨(some (.o (.o (.o (.i (.i (.o (.o .h)))))))), (some ((.o (.i (.i (.o (.i (.o (.o .h))))))), true)), .load false 1 (.s (.i (.i (.i (.o (.i (.o (.o .h)))))))), 0, false⟩,
    ⟨(some (.i (.o (.o (.i (.i (.o (.o .h)))))))), (some ((.o (.i (.i (.o (.i (.o (.o .h))))))), true)), .call (.o (.o (.o (.o .h)))) [(.c (.int .i64 32))], 0, false⟩,
    ⟨(some (.o (.i (.o (.i (.i (.o (.o .h)))))))), (some ((.o (.i (.i (.o (.i (.o (.o .h))))))), true)), .bsl 1 1 [(.str [])] [(0, 1, (.s (.i (.o (.o (.i (.i (.o (.o .h)))))))))], 1, false⟩,
    ⟨(some (.i (.i (.o (.i (.i (.o (.o .h)))))))), (some ((.o (.i (.i (.o (.i (.o (.o .h))))))), true)), .call (.o (.o (.i (.o .h)))) [(.s (.o (.o (.o (.i (.i (.o (.o .h)))))))), (.s (.o (.i (.o (.i (.i (.o (.o .h))))))))], 0, false⟩,
    ⟨(some (.o (.o (.i (.i (.i (.o (.o .h)))))))), none, .pick (.s (.o (.i (.i (.o (.i (.o (.o .h)))))))) (.s (.i (.i (.o (.i (.i (.o (.o .h)))))))) (.c (.bool false)), 0, false⟩,
    ⟨(some (.i (.o (.o .h)))), none, .mov (.s (.o (.o (.i (.i (.i (.o (.o .h)))))))), 0, false⟩] 2)
   .ret)))))))))))) }

end Go.Proofs.YtmgbeipdeeegoaaGreatDoor.S

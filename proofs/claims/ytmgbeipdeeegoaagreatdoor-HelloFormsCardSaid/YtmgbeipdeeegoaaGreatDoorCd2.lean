/- The code of the functions, resolved (by a program of this session's, out of Lean's own print): part 2. -/
import Derived.Test.YtmgbeipdeeegoaaGreatDoorCd1
namespace Go.Proofs.YtmgbeipdeeegoaaGreatDoor.S
open Go.AE
set_option maxRecDepth 100000
/-- gosem.cut.init -/
noncomputable def d2 : Go.AE.Fd := { np := 0, res := [], code :=
   (.reg [⟨(some .h), none, .call (.o .h) [], 0, true⟩] 0) }

/-- halberd/halberdlaw24.HelloChosen -/
noncomputable def d3 : Go.AE.Fd := { np := 4, res := [.tmp (.i (.o (.o .h)))], code :=
   (.seq (.reg [⟨(some (.i (.o .h))), none, .box (.s .h), 0, true⟩,
    ⟨(some (.o (.i .h))), none, .box (.s (.o .h)), 0, true⟩,
    ⟨(some (.i (.o (.o .h)))), none, .mov (.c (.bool false)), 0, true⟩] 0)
   (.seq (.seq (.reg [⟨(some (.o (.o (.o (.o .h))))), none, .call (.o (.i (.o .h))) [], 0, true⟩,
    ⟨(some (.i (.o (.o (.o .h))))), none, .un .not (.s (.o (.o (.o (.o .h))))), 0, true⟩] 0)
   (.cond (.s (.i (.o (.o (.o .h)))))
   (.seq (.reg [⟨(some (.i (.o (.o .h)))), none, .mov (.c (.bool false)), 0, true⟩] 0)
   .ret)
   .skip))
   (.seq (.reg [⟨(some (.o (.i (.o (.o .h))))), none, .load true 15 (.s (.i (.o .h))), 0, true⟩,
    ⟨(some (.i (.i (.o (.o .h))))), none, .load true 21 (.s (.o (.i .h))), 0, true⟩,
    ⟨(some (.o (.o (.i (.o .h))))), none, .mov (.s (.i .h)), 0, true⟩,
    ⟨(some (.i (.o (.i (.o .h))))), none, .mov (.s (.o (.o .h))), 0, true⟩,
    ⟨(some (.o (.i (.i (.o .h))))), none, .call (.i (.i (.o .h))) [(.s (.o (.i (.o (.o .h))))), (.s (.i (.i (.o (.o .h))))), (.s (.o (.o (.i (.o .h))))), (.s (.i (.o (.i (.o .h)))))], 0, true⟩,
    ⟨(some (.o (.i (.o .h)))), none, .alloc [(.int .i64 0), (.int .i64 0), (.str []), (.bool false), (.bool false), (.int .i64 0)], 0, true⟩,
    ⟨none, none, .store 6 (.s (.o (.i (.o .h)))) (.s (.o (.i (.i (.o .h))))), 0, true⟩] 0)
   (.seq (.seq (.reg [⟨(some (.i (.i (.i (.o .h))))), none, .lea 5 (.s (.o (.i (.o .h)))), 0, true⟩,
    ⟨(some (.o (.o (.o (.i .h))))), none, .load false 1 (.s (.i (.i (.i (.o .h))))), 0, true⟩,
    ⟨(some (.i (.o (.o (.i .h))))), none, .bin .geq (.s (.o (.o (.o (.i .h))))) (.c (.int .i64 0)), 0, true⟩] 0)
   (.cond (.s (.i (.o (.o (.i .h)))))
   (.seq (.reg [⟨(some (.o (.i (.o (.i .h))))), none, .load true 6 (.s (.o (.i (.o .h)))), 0, true⟩,
    ⟨(some (.i (.i (.o (.i .h))))), none, .lea 5 (.s (.o (.i (.o .h)))), 0, true⟩,
    ⟨(some (.o (.o (.i (.i .h))))), none, .load false 1 (.s (.i (.i (.o (.i .h))))), 0, true⟩,
    ⟨(some (.i (.o (.i (.i .h))))), none, .build [(.int .i64 0), (.int .i64 0), (.str []), (.bool false), (.bool false), (.int .i64 0)] [(5, 1, (.s (.o (.o (.i (.i .h))))))], 0, true⟩,
    ⟨(some (.o (.i (.i (.i .h))))), none, .eqs false [.i, .i, .s, .b, .b, .i] (.s (.o (.i (.o (.i .h))))) (.s (.i (.o (.i (.i .h))))), 0, true⟩,
    ⟨(some (.i (.o (.o .h)))), none, .mov (.s (.o (.i (.i (.i .h))))), 0, true⟩] 0)
   .ret)
   .skip))
   (.seq (.seq (.reg [⟨(some (.i (.i (.i (.i .h))))), none, .lea 5 (.s (.o (.i (.o .h)))), 0, true⟩,
    ⟨(some (.o (.o (.o (.o (.o .h)))))), none, .load false 1 (.s (.i (.i (.i (.i .h))))), 0, true⟩,
    ⟨(some (.i (.o (.o (.o (.o .h)))))), none, .bin .neq (.s (.o (.o (.o (.o (.o .h)))))) (.c (.int .i64 (-1))), 0, true⟩,
    ⟨(some (.o (.i (.o (.o (.o .h)))))), none, .mov (.s (.i (.o (.o (.o (.o .h)))))), 0, true⟩,
    ⟨(some (.i (.i (.o (.o (.o .h)))))), (some ((.o (.i (.o (.o (.o .h))))), false)), .load true 15 (.s (.i (.o .h))), 0, true⟩,
    ⟨(some (.o (.o (.i (.o (.o .h)))))), (some ((.o (.i (.o (.o (.o .h))))), false)), .call (.o (.o (.i .h))) [(.s (.i (.i (.o (.o (.o .h))))))], 0, true⟩,
    ⟨(some (.i (.o (.i (.o (.o .h)))))), (some ((.o (.i (.o (.o (.o .h))))), false)), .un .not (.s (.o (.o (.i (.o (.o .h)))))), 0, true⟩,
    ⟨(some (.o (.i (.i (.o (.o .h)))))), none, .pick (.s (.o (.i (.o (.o (.o .h)))))) (.c (.bool true)) (.s (.i (.o (.i (.o (.o .h)))))), 0, true⟩,
    ⟨(some (.i (.i (.i (.o (.o .h)))))), none, .mov (.s (.o (.i (.i (.o (.o .h)))))), 0, true⟩,
    ⟨(some (.o (.o (.o (.i (.o .h)))))), (some ((.i (.i (.i (.o (.o .h))))), false)), .lea 0 (.s (.i (.o .h))), 0, true⟩,
    ⟨(some (.i (.o (.o (.i (.o .h)))))), (some ((.i (.i (.i (.o (.o .h))))), false)), .load false 1 (.s (.o (.o (.o (.i (.o .h)))))), 0, true⟩,
    ⟨(some (.o (.i (.o (.i (.o .h)))))), (some ((.i (.i (.i (.o (.o .h))))), false)), .un .not (.s (.i (.o (.o (.i (.o .h)))))), 0, true⟩,
    ⟨(some (.i (.i (.o (.i (.o .h)))))), none, .pick (.s (.i (.i (.i (.o (.o .h)))))) (.c (.bool true)) (.s (.o (.i (.o (.i (.o .h)))))), 0, true⟩,
    ⟨(some (.o (.o (.i (.i (.o .h)))))), none, .mov (.s (.i (.i (.o (.i (.o .h)))))), 0, true⟩,
    ⟨(some (.i (.o (.i (.i (.o .h)))))), (some ((.o (.o (.i (.i (.o .h))))), false)), .lea 0 (.s (.o (.i .h))), 0, true⟩,
    ⟨(some (.o (.i (.i (.i (.o .h)))))), (some ((.o (.o (.i (.i (.o .h))))), false)), .load false 1 (.s (.i (.o (.i (.i (.o .h)))))), 0, true⟩,
    ⟨(some (.i (.i (.i (.i (.o .h)))))), (some ((.o (.o (.i (.i (.o .h))))), false)), .bin .neq (.s (.o (.i (.i (.i (.o .h)))))) (.c (.int .i64 1)), 0, true⟩,
    ⟨(some (.o (.o (.o (.o (.i .h)))))), none, .pick (.s (.o (.o (.i (.i (.o .h)))))) (.c (.bool true)) (.s (.i (.i (.i (.i (.o .h)))))), 0, true⟩,
    ⟨(some (.i (.o (.o (.o (.i .h)))))), none, .mov (.s (.o (.o (.o (.o (.i .h)))))), 0, true⟩,
    ⟨(some (.o (.i (.o (.o (.i .h)))))), (some ((.i (.o (.o (.o (.i .h))))), false)), .lea 3 (.s (.o (.i .h))), 0, true⟩,
    ⟨(some (.i (.i (.o (.o (.i .h)))))), (some ((.i (.o (.o (.o (.i .h))))), false)), .load false 1 (.s (.o (.i (.o (.o (.i .h)))))), 0, true⟩,
    ⟨(some (.o (.o (.i (.o (.i .h)))))), (some ((.i (.o (.o (.o (.i .h))))), false)), .lea 0 (.s (.o (.i (.o .h)))), 0, true⟩,
    ⟨(some (.i (.o (.i (.o (.i .h)))))), (some ((.i (.o (.o (.o (.i .h))))), false)), .load false 1 (.s (.o (.o (.i (.o (.i .h)))))), 0, true⟩,
    ⟨(some (.o (.i (.i (.o (.i .h)))))), (some ((.i (.o (.o (.o (.i .h))))), false)), .call (.i (.o (.i .h))) [(.s (.i (.i (.o (.o (.i .h)))))), (.s (.i (.o (.i (.o (.i .h))))))], 0, true⟩,
    ⟨(some (.i (.i (.i (.o (.i .h)))))), (some ((.i (.o (.o (.o (.i .h))))), false)), .un .not (.s (.o (.i (.i (.o (.i .h)))))), 0, true⟩,
    ⟨(some (.o (.o (.o (.i (.i .h)))))), none, .pick (.s (.i (.o (.o (.o (.i .h)))))) (.c (.bool true)) (.s (.i (.i (.i (.o (.i .h)))))), 0, true⟩,
    ⟨(some (.i (.o (.o (.i (.i .h)))))), none, .mov (.s (.o (.o (.o (.i (.i .h)))))), 0, true⟩,
    ⟨(some (.o (.i (.o (.i (.i .h)))))), (some ((.i (.o (.o (.i (.i .h))))), false)), .lea 6 (.s (.o (.i .h))), 0, true⟩,
    ⟨(some (.i (.i (.o (.i (.i .h)))))), (some ((.i (.o (.o (.i (.i .h))))), false)), .load false 1 (.s (.o (.i (.o (.i (.i .h)))))), 0, true⟩,
    ⟨(some (.o (.o (.i (.i (.i .h)))))), (some ((.i (.o (.o (.i (.i .h))))), false)), .lea 1 (.s (.o (.i (.o .h)))), 0, true⟩,
    ⟨(some (.i (.o (.i (.i (.i .h)))))), (some ((.i (.o (.o (.i (.i .h))))), false)), .load false 1 (.s (.o (.o (.i (.i (.i .h)))))), 0, true⟩,
    ⟨(some (.o (.i (.i (.i (.i .h)))))), (some ((.i (.o (.o (.i (.i .h))))), false)), .call (.i (.o (.i .h))) [(.s (.i (.i (.o (.i (.i .h)))))), (.s (.i (.o (.i (.i (.i .h))))))], 0, true⟩,
    ⟨(some (.i (.i (.i (.i (.i .h)))))), (some ((.i (.o (.o (.i (.i .h))))), false)), .un .not (.s (.o (.i (.i (.i (.i .h)))))), 0, true⟩,
    ⟨(some (.o (.o (.o (.o (.o (.o .h))))))), none, .pick (.s (.i (.o (.o (.i (.i .h)))))) (.c (.bool true)) (.s (.i (.i (.i (.i (.i .h)))))), 0, true⟩,
    ⟨(some (.i (.o (.o (.o (.o (.o .h))))))), none, .mov (.s (.o (.o (.o (.o (.o (.o .h))))))), 0, true⟩,
    ⟨(some (.o (.i (.o (.o (.o (.o .h))))))), (some ((.i (.o (.o (.o (.o (.o .h)))))), false)), .lea 5 (.s (.o (.i .h))), 0, true⟩,
    ⟨(some (.i (.i (.o (.o (.o (.o .h))))))), (some ((.i (.o (.o (.o (.o (.o .h)))))), false)), .load false 1 (.s (.o (.i (.o (.o (.o (.o .h))))))), 0, true⟩,
    ⟨(some (.o (.o (.i (.o (.o (.o .h))))))), (some ((.i (.o (.o (.o (.o (.o .h)))))), false)), .call (.i (.o (.i .h))) [(.s (.i (.i (.o (.o (.o (.o .h))))))), (.c (.int .i64 772))], 0, true⟩,
    ⟨(some (.i (.o (.i (.o (.o (.o .h))))))), (some ((.i (.o (.o (.o (.o (.o .h)))))), false)), .un .not (.s (.o (.o (.i (.o (.o (.o .h))))))), 0, true⟩,
    ⟨(some (.o (.i (.i (.o (.o (.o .h))))))), none, .pick (.s (.i (.o (.o (.o (.o (.o .h))))))) (.c (.bool true)) (.s (.i (.o (.i (.o (.o (.o .h))))))), 0, true⟩] 0)
   (.cond (.s (.o (.i (.i (.o (.o (.o .h)))))))
   (.seq (.reg [⟨(some (.i (.o (.o .h)))), none, .mov (.c (.bool false)), 0, true⟩] 0)
   .ret)
   .skip))
   (.seq (.seq (.reg [⟨(some (.i (.i (.o .h)))), none, .mov (.c (.int .i64 0)), 0, true⟩] 0)
   (.block 0 (.loop (.seq (.seq (.reg [⟨(some (.i (.i (.i (.o (.o (.o .h))))))), none, .mov (.s (.i (.i (.o .h)))), 0, false⟩,
    ⟨(some (.o (.o (.o (.i (.o (.o .h))))))), none, .lea 1 (.s (.i (.o .h))), 0, false⟩,
    ⟨(some (.i (.o (.o (.i (.o (.o .h))))))), none, .load false 1 (.s (.o (.o (.o (.i (.o (.o .h))))))), 0, false⟩,
    ⟨(some (.o (.i (.o (.i (.o (.o .h))))))), none, .len (.s (.i (.o (.o (.i (.o (.o .h))))))), 0, false⟩,
    ⟨(some (.i (.i (.o (.i (.o (.o .h))))))), none, .bin .lss (.s (.i (.i (.i (.o (.o (.o .h))))))) (.s (.o (.i (.o (.i (.o (.o .h))))))), 0, false⟩,
    ⟨(some (.o (.o (.i (.i (.o (.o .h))))))), none, .mov (.s (.i (.i (.o (.i (.o (.o .h))))))), 0, false⟩,
    ⟨(some (.i (.o (.i (.i (.o (.o .h))))))), (some ((.o (.o (.i (.i (.o (.o .h)))))), true)), .lea 1 (.s (.i (.o .h))), 0, false⟩,
    ⟨(some (.o (.i (.i (.i (.o (.o .h))))))), (some ((.o (.o (.i (.i (.o (.o .h)))))), true)), .load false 1 (.s (.i (.o (.i (.i (.o (.o .h))))))), 0, false⟩,
    ⟨(some (.i (.i (.i (.i (.o (.o .h))))))), (some ((.o (.o (.i (.i (.o (.o .h)))))), true)), .mov (.s (.i (.i (.o .h)))), 0, false⟩,
    ⟨(some (.o (.o (.o (.o (.i (.o .h))))))), (some ((.o (.o (.i (.i (.o (.o .h)))))), true)), .ixS 1 (.s (.o (.i (.i (.i (.o (.o .h))))))) (.s (.i (.i (.i (.i (.o (.o .h))))))), 0, false⟩,
    ⟨(some (.i (.o (.o (.o (.i (.o .h))))))), (some ((.o (.o (.i (.i (.o (.o .h)))))), true)), .load false 1 (.s (.o (.o (.o (.o (.i (.o .h))))))), 0, false⟩,
    ⟨(some (.o (.i (.o (.o (.i (.o .h))))))), (some ((.o (.o (.i (.i (.o (.o .h)))))), true)), .lea 0 (.s (.o (.i (.o .h)))), 0, false⟩,
    ⟨(some (.i (.i (.o (.o (.i (.o .h))))))), (some ((.o (.o (.i (.i (.o (.o .h)))))), true)), .load false 1 (.s (.o (.i (.o (.o (.i (.o .h))))))), 0, false⟩,
    ⟨(some (.o (.o (.i (.o (.i (.o .h))))))), (some ((.o (.o (.i (.i (.o (.o .h)))))), true)), .bin .neq (.s (.i (.o (.o (.o (.i (.o .h))))))) (.s (.i (.i (.o (.o (.i (.o .h))))))), 0, false⟩,
    ⟨(some (.i (.o (.i (.o (.i (.o .h))))))), none, .pick (.s (.o (.o (.i (.i (.o (.o .h))))))) (.s (.o (.o (.i (.o (.i (.o .h))))))) (.c (.bool false)), 0, false⟩] 0)
   (.cond (.s (.i (.o (.i (.o (.i (.o .h)))))))
   .skip
   (.exit 0)))
   (.seq (.block 1 (.seq (.reg [⟨(some (.o (.o (.o (.i (.i (.o .h))))))), none, .lea 3 (.s (.o (.i .h))), 0, false⟩,
    ⟨(some (.i (.o (.o (.i (.i (.o .h))))))), none, .load false 1 (.s (.o (.o (.o (.i (.i (.o .h))))))), 0, false⟩,
    ⟨(some (.o (.i (.o (.i (.i (.o .h))))))), none, .lea 1 (.s (.i (.o .h))), 0, false⟩,
    ⟨(some (.i (.i (.o (.i (.i (.o .h))))))), none, .load false 1 (.s (.o (.i (.o (.i (.i (.o .h))))))), 0, false⟩,
    ⟨(some (.o (.o (.i (.i (.i (.o .h))))))), none, .mov (.s (.i (.i (.o .h)))), 0, false⟩,
    ⟨(some (.i (.o (.i (.i (.i (.o .h))))))), none, .ixS 1 (.s (.i (.i (.o (.i (.i (.o .h))))))) (.s (.o (.o (.i (.i (.i (.o .h))))))), 0, false⟩,
    ⟨(some (.o (.i (.i (.i (.i (.o .h))))))), none, .load false 1 (.s (.i (.o (.i (.i (.i (.o .h))))))), 0, false⟩,
    ⟨(some (.i (.i (.i (.i (.i (.o .h))))))), none, .call (.i (.o (.i .h))) [(.s (.i (.o (.o (.i (.i (.o .h))))))), (.s (.o (.i (.i (.i (.i (.o .h)))))))], 0, false⟩] 0)
   (.cond (.s (.i (.i (.i (.i (.i (.o .h)))))))
   (.seq (.reg [⟨(some (.i (.o (.o .h)))), none, .mov (.c (.bool false)), 0, true⟩] 0)
   .ret)
   .skip)))
   (.reg [⟨(some (.o (.i (.i (.o (.i (.o .h))))))), none, .mov (.s (.i (.i (.o .h)))), 0, true⟩,
    ⟨(some (.i (.i (.i (.o (.i (.o .h))))))), none, .bin .add (.s (.o (.i (.i (.o (.i (.o .h))))))) (.c (.int .i64 1)), 0, true⟩,
    ⟨(some (.i (.i (.o .h)))), none, .mov (.s (.i (.i (.i (.o (.i (.o .h))))))), 0, true⟩] 0))))))
   (.seq (.reg [⟨(some (.o (.o (.i .h)))), none, .mov (.c (.str [])), 0, true⟩] 0)
   (.seq (.seq (.reg [⟨(some (.i (.o (.i .h)))), none, .mov (.c (.int .i64 0)), 0, true⟩] 0)
   (.block 2 (.loop (.seq (.seq (.reg [⟨(some (.o (.o (.o (.o (.o (.i .h))))))), none, .mov (.s (.i (.o (.i .h)))), 0, true⟩,
    ⟨(some (.i (.o (.o (.o (.o (.i .h))))))), none, .lea 9 (.s (.o (.i .h))), 0, true⟩,
    ⟨(some (.o (.i (.o (.o (.o (.i .h))))))), none, .load false 1 (.s (.i (.o (.o (.o (.o (.i .h))))))), 0, true⟩,
    ⟨(some (.i (.i (.o (.o (.o (.i .h))))))), none, .len (.s (.o (.i (.o (.o (.o (.i .h))))))), 0, true⟩,
    ⟨(some (.o (.o (.i (.o (.o (.i .h))))))), none, .bin .lss (.s (.o (.o (.o (.o (.o (.i .h))))))) (.s (.i (.i (.o (.o (.o (.i .h))))))), 0, true⟩] 0)
   (.cond (.s (.o (.o (.i (.o (.o (.i .h)))))))
   .skip
   (.exit 2)))
   (.seq (.block 3 (.seq (.reg [⟨(some (.i (.i (.i (.o (.o (.i .h))))))), none, .lea 9 (.s (.o (.i .h))), 0, false⟩,
    ⟨(some (.o (.o (.o (.i (.o (.i .h))))))), none, .load false 1 (.s (.i (.i (.i (.o (.o (.i .h))))))), 0, false⟩,
    ⟨(some (.i (.o (.o (.i (.o (.i .h))))))), none, .mov (.s (.i (.o (.i .h)))), 0, false⟩,
    ⟨(some (.o (.i (.o (.i (.o (.i .h))))))), none, .ixS 2 (.s (.o (.o (.o (.i (.o (.i .h))))))) (.s (.i (.o (.o (.i (.o (.i .h))))))), 0, false⟩,
    ⟨(some (.i (.i (.o (.i (.o (.i .h))))))), none, .lea 0 (.s (.o (.i (.o (.i (.o (.i .h))))))), 0, false⟩,
    ⟨(some (.o (.o (.i (.i (.o (.i .h))))))), none, .load false 1 (.s (.i (.i (.o (.i (.o (.i .h))))))), 0, false⟩,
    ⟨(some (.i (.o (.i (.i (.o (.i .h))))))), none, .lea 1 (.s (.o (.i (.o .h)))), 0, false⟩,
    ⟨(some (.o (.i (.i (.i (.o (.i .h))))))), none, .load false 1 (.s (.i (.o (.i (.i (.o (.i .h))))))), 0, false⟩,
    ⟨(some (.i (.i (.i (.i (.o (.i .h))))))), none, .bin .eql (.s (.o (.o (.i (.i (.o (.i .h))))))) (.s (.o (.i (.i (.i (.o (.i .h))))))), 0, false⟩] 0)
   (.cond (.s (.i (.i (.i (.i (.o (.i .h)))))))
   (.reg [⟨(some (.o (.o (.o (.o (.i (.i .h))))))), none, .lea 9 (.s (.o (.i .h))), 0, true⟩,
    ⟨(some (.i (.o (.o (.o (.i (.i .h))))))), none, .load false 1 (.s (.o (.o (.o (.o (.i (.i .h))))))), 0, true⟩,
    ⟨(some (.o (.i (.o (.o (.i (.i .h))))))), none, .mov (.s (.i (.o (.i .h)))), 0, true⟩,
    ⟨(some (.i (.i (.o (.o (.i (.i .h))))))), none, .ixS 2 (.s (.i (.o (.o (.o (.i (.i .h))))))) (.s (.o (.i (.o (.o (.i (.i .h))))))), 0, true⟩,
    ⟨(some (.o (.o (.i (.o (.i (.i .h))))))), none, .lea 1 (.s (.i (.i (.o (.o (.i (.i .h))))))), 0, true⟩,
    ⟨(some (.i (.o (.i (.o (.i (.i .h))))))), none, .load false 1 (.s (.o (.o (.i (.o (.i (.i .h))))))), 0, true⟩,
    ⟨(some (.o (.o (.i .h)))), none, .mov (.s (.i (.o (.i (.o (.i (.i .h))))))), 0, true⟩] 0)
   .skip)))
   (.reg [⟨(some (.i (.o (.i (.o (.o (.i .h))))))), none, .mov (.s (.i (.o (.i .h)))), 0, true⟩,
    ⟨(some (.o (.i (.i (.o (.o (.i .h))))))), none, .bin .add (.s (.i (.o (.i (.o (.o (.i .h))))))) (.c (.int .i64 1)), 0, true⟩,
    ⟨(some (.i (.o (.i .h)))), none, .mov (.s (.o (.i (.i (.o (.o (.i .h))))))), 0, true⟩] 0))))))
   (.seq (.reg [⟨(some (.o (.i (.i .h)))), none, .mov (.c (.bool false)), 0, true⟩] 0)
   (.seq (.seq (.reg [⟨(some (.i (.i (.i .h)))), none, .mov (.c (.int .i64 0)), 0, true⟩] 0)
   (.block 4 (.loop (.seq (.seq (.reg [⟨(some (.o (.i (.i (.o (.i (.i .h))))))), none, .mov (.s (.i (.i (.i .h)))), 0, true⟩,
    ⟨(some (.i (.i (.i (.o (.i (.i .h))))))), none, .lea 9 (.s (.o (.i .h))), 0, true⟩,
    ⟨(some (.o (.o (.o (.i (.i (.i .h))))))), none, .load false 1 (.s (.i (.i (.i (.o (.i (.i .h))))))), 0, true⟩,
    ⟨(some (.i (.o (.o (.i (.i (.i .h))))))), none, .len (.s (.o (.o (.o (.i (.i (.i .h))))))), 0, true⟩,
    ⟨(some (.o (.i (.o (.i (.i (.i .h))))))), none, .bin .lss (.s (.o (.i (.i (.o (.i (.i .h))))))) (.s (.i (.o (.o (.i (.i (.i .h))))))), 0, true⟩] 0)
   (.cond (.s (.o (.i (.o (.i (.i (.i .h)))))))
   .skip
   (.exit 4)))
   (.seq (.block 5 (.reg [⟨(some (.i (.o (.i (.i (.i (.i .h))))))), none, .mov (.s (.o (.i (.i .h)))), 0, false⟩,
    ⟨(some (.o (.i (.i (.i (.i (.i .h))))))), none, .mov (.s (.i (.o (.i (.i (.i (.i .h))))))), 0, false⟩,
    ⟨(some (.i (.i (.i (.i (.i (.i .h))))))), (some ((.o (.i (.i (.i (.i (.i .h)))))), false)), .lea 9 (.s (.o (.i .h))), 0, false⟩,
    ⟨(some (.o (.o (.o (.o (.o (.o (.o .h)))))))), (some ((.o (.i (.i (.i (.i (.i .h)))))), false)), .load false 1 (.s (.i (.i (.i (.i (.i (.i .h))))))), 0, false⟩,
    ⟨(some (.i (.o (.o (.o (.o (.o (.o .h)))))))), (some ((.o (.i (.i (.i (.i (.i .h)))))), false)), .mov (.s (.i (.i (.i .h)))), 0, false⟩,
    ⟨(some (.o (.i (.o (.o (.o (.o (.o .h)))))))), (some ((.o (.i (.i (.i (.i (.i .h)))))), false)), .ixS 2 (.s (.o (.o (.o (.o (.o (.o (.o .h)))))))) (.s (.i (.o (.o (.o (.o (.o (.o .h)))))))), 0, false⟩,
    ⟨(some (.i (.i (.o (.o (.o (.o (.o .h)))))))), (some ((.o (.i (.i (.i (.i (.i .h)))))), false)), .lea 0 (.s (.o (.i (.o (.o (.o (.o (.o .h)))))))), 0, false⟩,
    ⟨(some (.o (.o (.i (.o (.o (.o (.o .h)))))))), (some ((.o (.i (.i (.i (.i (.i .h)))))), false)), .load false 1 (.s (.i (.i (.o (.o (.o (.o (.o .h)))))))), 0, false⟩,
    ⟨(some (.i (.o (.i (.o (.o (.o (.o .h)))))))), (some ((.o (.i (.i (.i (.i (.i .h)))))), false)), .lea 1 (.s (.o (.i (.o .h)))), 0, false⟩,
    ⟨(some (.o (.i (.i (.o (.o (.o (.o .h)))))))), (some ((.o (.i (.i (.i (.i (.i .h)))))), false)), .load false 1 (.s (.i (.o (.i (.o (.o (.o (.o .h)))))))), 0, false⟩,
    ⟨(some (.i (.i (.i (.o (.o (.o (.o .h)))))))), (some ((.o (.i (.i (.i (.i (.i .h)))))), false)), .bin .eql (.s (.o (.o (.i (.o (.o (.o (.o .h)))))))) (.s (.o (.i (.i (.o (.o (.o (.o .h)))))))), 0, false⟩,
    ⟨(some (.o (.o (.o (.i (.o (.o (.o .h)))))))), none, .pick (.s (.o (.i (.i (.i (.i (.i .h))))))) (.c (.bool true)) (.s (.i (.i (.i (.o (.o (.o (.o .h)))))))), 0, false⟩,
    ⟨(some (.o (.i (.i .h)))), none, .mov (.s (.o (.o (.o (.i (.o (.o (.o .h)))))))), 0, false⟩] 0))
   (.reg [⟨(some (.i (.i (.o (.i (.i (.i .h))))))), none, .mov (.s (.i (.i (.i .h)))), 0, true⟩,
    ⟨(some (.o (.o (.i (.i (.i (.i .h))))))), none, .bin .add (.s (.i (.i (.o (.i (.i (.i .h))))))) (.c (.int .i64 1)), 0, true⟩,
    ⟨(some (.i (.i (.i .h)))), none, .mov (.s (.o (.o (.i (.i (.i (.i .h))))))), 0, true⟩] 0))))))
   (.seq (.reg [⟨(some (.i (.o (.o (.i (.o (.o (.o .h)))))))), none, .lea 3 (.s (.o (.i (.o .h)))), 0, true⟩,
    ⟨(some (.o (.i (.o (.i (.o (.o (.o .h)))))))), none, .load false 1 (.s (.i (.o (.o (.i (.o (.o (.o .h)))))))), 0, true⟩,
    ⟨(some (.i (.i (.o (.i (.o (.o (.o .h)))))))), none, .mov (.s (.o (.i (.i .h)))), 0, true⟩,
    ⟨(some (.o (.o (.i (.i (.o (.o (.o .h)))))))), none, .un .not (.s (.i (.i (.o (.i (.o (.o (.o .h)))))))), 0, true⟩,
    ⟨(some (.i (.o (.i (.i (.o (.o (.o .h)))))))), none, .eqb false (.s (.o (.i (.o (.i (.o (.o (.o .h)))))))) (.s (.o (.o (.i (.i (.o (.o (.o .h)))))))), 0, true⟩,
    ⟨(some (.o (.i (.i (.i (.o (.o (.o .h)))))))), none, .mov (.s (.i (.o (.i (.i (.o (.o (.o .h)))))))), 0, true⟩,
    ⟨(some (.i (.i (.i (.i (.o (.o (.o .h)))))))), (some ((.o (.i (.i (.i (.o (.o (.o .h))))))), true)), .lea 2 (.s (.o (.i (.o .h)))), 0, true⟩,
    ⟨(some (.o (.o (.o (.o (.i (.o (.o .h)))))))), (some ((.o (.i (.i (.i (.o (.o (.o .h))))))), true)), .load false 1 (.s (.i (.i (.i (.i (.o (.o (.o .h)))))))), 0, true⟩,
    ⟨(some (.i (.o (.o (.o (.i (.o (.o .h)))))))), (some ((.o (.i (.i (.i (.o (.o (.o .h))))))), true)), .mov (.s (.o (.o (.i .h)))), 0, true⟩,
    ⟨(some (.o (.i (.o (.o (.i (.o (.o .h)))))))), (some ((.o (.i (.i (.i (.o (.o (.o .h))))))), true)), .bin .eql (.s (.o (.o (.o (.o (.i (.o (.o .h)))))))) (.s (.i (.o (.o (.o (.i (.o (.o .h)))))))), 0, true⟩,
    ⟨(some (.i (.i (.o (.o (.i (.o (.o .h)))))))), none, .pick (.s (.o (.i (.i (.i (.o (.o (.o .h)))))))) (.s (.o (.i (.o (.o (.i (.o (.o .h)))))))) (.c (.bool false)), 0, true⟩,
    ⟨(some (.o (.o (.i (.o (.i (.o (.o .h)))))))), none, .mov (.s (.i (.i (.o (.o (.i (.o (.o .h)))))))), 0, true⟩,
    ⟨(some (.i (.o (.i (.o (.i (.o (.o .h)))))))), (some ((.o (.o (.i (.o (.i (.o (.o .h))))))), true)), .lea 4 (.s (.o (.i (.o .h)))), 0, true⟩,
    ⟨(some (.o (.i (.i (.o (.i (.o (.o .h)))))))), (some ((.o (.o (.i (.o (.i (.o (.o .h))))))), true)), .load false 1 (.s (.i (.o (.i (.o (.i (.o (.o .h)))))))), 0, true⟩,
    ⟨(some (.i (.i (.i (.o (.i (.o (.o .h)))))))), (some ((.o (.o (.i (.o (.i (.o (.o .h))))))), true)), .mov (.s (.o (.i (.i (.o (.i (.o (.o .h)))))))), 0, true⟩,
    ⟨(some (.o (.o (.o (.i (.i (.o (.o .h)))))))), (some ((.i (.i (.i (.o (.i (.o (.o .h))))))), false)), .lea 3 (.s (.o (.i (.o .h)))), 0, true⟩,
    ⟨(some (.i (.o (.o (.i (.i (.o (.o .h)))))))), (some ((.i (.i (.i (.o (.i (.o (.o .h))))))), false)), .load false 1 (.s (.o (.o (.o (.i (.i (.o (.o .h)))))))), 0, true⟩,
    ⟨(some (.o (.i (.o (.i (.i (.o (.o .h)))))))), (some ((.o (.o (.i (.o (.i (.o (.o .h))))))), true)), .pick (.s (.i (.i (.i (.o (.i (.o (.o .h)))))))) (.c (.bool true)) (.s (.i (.o (.o (.i (.i (.o (.o .h)))))))), 0, true⟩,
    ⟨(some (.i (.i (.o (.i (.i (.o (.o .h)))))))), (some ((.o (.o (.i (.o (.i (.o (.o .h))))))), true)), .mov (.s (.o (.i (.o (.i (.i (.o (.o .h)))))))), 0, true⟩,
    ⟨(some (.o (.o (.i (.i (.i (.o (.o .h)))))))), (some ((.i (.i (.o (.i (.i (.o (.o .h))))))), false)), .lea 7 (.s (.o (.i .h))), 0, true⟩,
    ⟨(some (.i (.o (.i (.i (.i (.o (.o .h)))))))), (some ((.i (.i (.o (.i (.i (.o (.o .h))))))), false)), .load false 1 (.s (.o (.o (.i (.i (.i (.o (.o .h)))))))), 0, true⟩,
    ⟨(some (.o (.i (.i (.i (.i (.o (.o .h)))))))), (some ((.i (.i (.o (.i (.i (.o (.o .h))))))), false)), .call (.i (.o (.i .h))) [(.s (.i (.o (.i (.i (.i (.o (.o .h)))))))), (.c (.int .i64 1027))], 0, true⟩,
    ⟨(some (.i (.i (.i (.i (.i (.o (.o .h)))))))), (some ((.o (.o (.i (.o (.i (.o (.o .h))))))), true)), .pick (.s (.i (.i (.o (.i (.i (.o (.o .h)))))))) (.c (.bool true)) (.s (.o (.i (.i (.i (.i (.o (.o .h)))))))), 0, true⟩,
    ⟨(some (.o (.o (.o (.o (.o (.i (.o .h)))))))), none, .pick (.s (.o (.o (.i (.o (.i (.o (.o .h)))))))) (.s (.i (.i (.i (.i (.i (.o (.o .h)))))))) (.c (.bool false)), 0, true⟩,
    ⟨(some (.i (.o (.o (.o (.o (.i (.o .h)))))))), none, .mov (.s (.o (.o (.o (.o (.o (.i (.o .h)))))))), 0, true⟩,
    ⟨(some (.o (.i (.o (.o (.o (.i (.o .h)))))))), (some ((.i (.o (.o (.o (.o (.i (.o .h))))))), true)), .lea 4 (.s (.o (.i (.o .h)))), 0, true⟩,
    ⟨(some (.i (.i (.o (.o (.o (.i (.o .h)))))))), (some ((.i (.o (.o (.o (.o (.i (.o .h))))))), true)), .load false 1 (.s (.o (.i (.o (.o (.o (.i (.o .h)))))))), 0, true⟩,
    ⟨(some (.o (.o (.i (.o (.o (.i (.o .h)))))))), (some ((.i (.o (.o (.o (.o (.i (.o .h))))))), true)), .un .not (.s (.i (.i (.o (.o (.o (.i (.o .h)))))))), 0, true⟩,
    ⟨(some (.i (.o (.i (.o (.o (.i (.o .h)))))))), (some ((.i (.o (.o (.o (.o (.i (.o .h))))))), true)), .mov (.s (.o (.o (.i (.o (.o (.i (.o .h)))))))), 0, true⟩,
    ⟨(some (.o (.i (.i (.o (.o (.i (.o .h)))))))), (some ((.i (.o (.i (.o (.o (.i (.o .h))))))), false)), .lea 10 (.s (.o (.i .h))), 0, true⟩,
    ⟨(some (.i (.i (.i (.o (.o (.i (.o .h)))))))), (some ((.i (.o (.i (.o (.o (.i (.o .h))))))), false)), .load false 1 (.s (.o (.i (.i (.o (.o (.i (.o .h)))))))), 0, true⟩,
    ⟨(some (.o (.o (.o (.i (.o (.i (.o .h)))))))), (some ((.i (.o (.i (.o (.o (.i (.o .h))))))), false)), .len (.s (.i (.i (.i (.o (.o (.i (.o .h)))))))), 0, true⟩,
    ⟨(some (.i (.o (.o (.i (.o (.i (.o .h)))))))), (some ((.i (.o (.i (.o (.o (.i (.o .h))))))), false)), .bin .gtr (.s (.o (.o (.o (.i (.o (.i (.o .h)))))))) (.c (.int .i64 0)), 0, true⟩,
    ⟨(some (.o (.i (.o (.i (.o (.i (.o .h)))))))), (some ((.i (.o (.i (.o (.o (.i (.o .h))))))), false)), .mov (.s (.i (.o (.o (.i (.o (.i (.o .h)))))))), 0, true⟩,
    ⟨(some (.i (.i (.o (.i (.o (.i (.o .h)))))))), (some ((.o (.i (.o (.i (.o (.i (.o .h))))))), true)), .lea 8 (.s (.o (.i .h))), 0, true⟩,
    ⟨(some (.o (.o (.i (.i (.o (.i (.o .h)))))))), (some ((.o (.i (.o (.i (.o (.i (.o .h))))))), true)), .load false 1 (.s (.i (.i (.o (.i (.o (.i (.o .h)))))))), 0, true⟩,
    ⟨(some (.i (.o (.i (.i (.o (.i (.o .h)))))))), (some ((.o (.i (.o (.i (.o (.i (.o .h))))))), true)), .call (.i (.o (.i .h))) [(.s (.o (.o (.i (.i (.o (.i (.o .h)))))))), (.c (.int .i64 1))], 0, true⟩,
    ⟨(some (.o (.i (.i (.i (.o (.i (.o .h)))))))), (some ((.i (.o (.i (.o (.o (.i (.o .h))))))), false)), .pick (.s (.o (.i (.o (.i (.o (.i (.o .h)))))))) (.s (.i (.o (.i (.i (.o (.i (.o .h)))))))) (.c (.bool false)), 0, true⟩,
    ⟨(some (.i (.i (.i (.i (.o (.i (.o .h)))))))), (some ((.i (.o (.i (.o (.o (.i (.o .h))))))), false)), .mov (.s (.o (.i (.i (.i (.o (.i (.o .h)))))))), 0, true⟩,
    ⟨(some (.o (.o (.o (.o (.i (.i (.o .h)))))))), (some ((.i (.i (.i (.i (.o (.i (.o .h))))))), true)), .lea 8 (.s (.i (.o .h))), 0, true⟩,
    ⟨(some (.i (.o (.o (.o (.i (.i (.o .h)))))))), (some ((.i (.i (.i (.i (.o (.i (.o .h))))))), true)), .load false 1 (.s (.o (.o (.o (.o (.i (.i (.o .h)))))))), 0, true⟩,
    ⟨(some (.o (.i (.o (.o (.i (.i (.o .h)))))))), (some ((.i (.i (.i (.i (.o (.i (.o .h))))))), true)), .lenS (.s (.i (.o (.o (.o (.i (.i (.o .h)))))))), 0, true⟩,
    ⟨(some (.i (.i (.o (.o (.i (.i (.o .h)))))))), (some ((.i (.i (.i (.i (.o (.i (.o .h))))))), true)), .bin .eql (.s (.o (.i (.o (.o (.i (.i (.o .h)))))))) (.c (.int .i64 32)), 0, true⟩,
    ⟨(some (.o (.o (.i (.o (.i (.i (.o .h)))))))), (some ((.i (.o (.i (.o (.o (.i (.o .h))))))), false)), .pick (.s (.i (.i (.i (.i (.o (.i (.o .h)))))))) (.s (.i (.i (.o (.o (.i (.i (.o .h)))))))) (.c (.bool false)), 0, true⟩,
    ⟨(some (.i (.o (.i (.o (.i (.i (.o .h)))))))), (some ((.i (.o (.o (.o (.o (.i (.o .h))))))), true)), .pick (.s (.i (.o (.i (.o (.o (.i (.o .h)))))))) (.c (.bool true)) (.s (.o (.o (.i (.o (.i (.i (.o .h)))))))), 0, true⟩,
    ⟨(some (.o (.i (.i (.o (.i (.i (.o .h)))))))), none, .pick (.s (.i (.o (.o (.o (.o (.i (.o .h)))))))) (.s (.i (.o (.i (.o (.i (.i (.o .h)))))))) (.c (.bool false)), 0, true⟩,
    ⟨(some (.i (.o (.o .h)))), none, .mov (.s (.o (.i (.i (.o (.i (.i (.o .h)))))))), 0, true⟩] 0)
   .ret))))))))))) }

/-- halberd/halberdlaw24.HelloForms -/
noncomputable def d4 : Go.AE.Fd := { np := 3, res := [.tmp (.i (.i .h))], code :=
   (.seq (.reg [⟨(some (.i (.i .h))), none, .mov (.c (.bool false)), 0, true⟩] 0)
   (.seq (.seq (.reg [⟨(some (.o (.i (.o .h)))), none, .call (.o (.i (.o .h))) [], 0, true⟩,
    ⟨(some (.i (.i (.o .h)))), none, .un .not (.s (.o (.i (.o .h)))), 0, true⟩] 0)
   (.cond (.s (.i (.i (.o .h))))
   (.seq (.reg [⟨(some (.i (.i .h))), none, .mov (.c (.bool false)), 0, true⟩] 0)
   .ret)
   .skip))
   (.seq (.reg [⟨(some (.o (.o (.i .h)))), none, .call (.o (.i (.i .h))) [], 0, true⟩,
    ⟨(some (.o (.o (.o .h)))), none, .alloc [(.bool false), .nils, .nils, .nils, (.str []), .nils, (.str []), (.int .i64 0), (.str []), .nils, (.str []), (.int .i64 0), (.int .i64 0), (.int .i64 0), (.int .i64 0)], 0, true⟩,
    ⟨none, none, .store 15 (.s (.o (.o (.o .h)))) (.s (.o (.o (.i .h)))), 0, true⟩] 0)
   (.seq (.seq (.reg [⟨(some (.i (.o (.i .h)))), none, .mov (.s (.i .h)), 0, true⟩] 0)
   (.cond (.s (.i (.o (.i .h))))
   (.reg [⟨(some (.o (.i (.i .h)))), none, .call (.i (.i (.i .h))) [], 0, true⟩,
    ⟨none, none, .store 15 (.s (.o (.o (.o .h)))) (.s (.o (.i (.i .h)))), 0, true⟩] 0)
   .skip))
   (.seq (.reg [⟨(some (.i (.i (.i .h)))), none, .mov (.s (.o .h)), 0, true⟩,
    ⟨(some (.o (.o (.o (.o .h))))), none, .bin .and (.s (.i (.i (.i .h)))) (.c (.int .i64 63)), 0, true⟩,
    ⟨(some (.i (.o (.o (.o .h))))), none, .bin .add (.c (.int .i64 1)) (.s (.o (.o (.o (.o .h))))), 0, true⟩,
    ⟨(some (.i (.o (.o .h)))), none, .mov (.s (.i (.o (.o (.o .h))))), 0, true⟩] 0)
   (.seq (.seq (.reg [⟨(some (.o (.i (.o (.o .h))))), none, .mov (.s .h), 0, true⟩,
    ⟨(some (.i (.i (.o (.o .h))))), none, .conv .u64 (.s (.o (.i (.o (.o .h))))), 0, true⟩,
    ⟨(some (.o (.o (.i (.o .h))))), none, .bin .rem (.s (.i (.i (.o (.o .h))))) (.c (.int .u64 20)), 0, true⟩] 0)
   (.block 0 (.seq (.reg [⟨(some (.i (.i (.o (.i .h))))), none, .bin .eql (.s (.o (.o (.i (.o .h))))) (.c (.int .u64 0)), 0, true⟩,
    ⟨(some (.o (.i (.o (.i .h))))), none, .mov (.s (.i (.i (.o (.i .h))))), 0, true⟩] 0)
   (.cond (.s (.o (.i (.o (.i .h)))))
   (.reg [⟨(some (.o (.o (.i (.i .h))))), none, .lea 1 (.s (.o (.o (.o .h)))), 0, true⟩,
    ⟨none, none, .store 1 (.s (.o (.o (.i (.i .h))))) (.c .nils), 0, true⟩] 0)
   (.seq (.reg [⟨(some (.o (.i (.i (.i .h))))), none, .bin .eql (.s (.o (.o (.i (.o .h))))) (.c (.int .u64 1)), 0, true⟩,
    ⟨(some (.i (.o (.i (.i .h))))), none, .mov (.s (.o (.i (.i (.i .h))))), 0, true⟩] 0)
   (.cond (.s (.i (.o (.i (.i .h)))))
   (.reg [⟨(some (.i (.i (.i (.i .h))))), none, .bsl 1 2 [(.int .i64 0), (.int .i64 0)] [(0, 1, (.c (.int .i64 4865))), (1, 1, (.c (.int .i64 4865)))], 0, true⟩,
    ⟨(some (.o (.o (.o (.o (.o .h)))))), none, .lea 1 (.s (.o (.o (.o .h)))), 0, true⟩,
    ⟨none, none, .store 1 (.s (.o (.o (.o (.o (.o .h)))))) (.s (.i (.i (.i (.i .h))))), 0, true⟩] 0)
   (.seq (.reg [⟨(some (.o (.i (.o (.o (.o .h)))))), none, .bin .eql (.s (.o (.o (.i (.o .h))))) (.c (.int .u64 2)), 0, true⟩,
    ⟨(some (.i (.o (.o (.o (.o .h)))))), none, .mov (.s (.o (.i (.o (.o (.o .h)))))), 0, true⟩] 0)
   (.cond (.s (.i (.o (.o (.o (.o .h))))))
   (.reg [⟨(some (.i (.i (.o (.o (.o .h)))))), none, .mov (.s (.i (.o (.o .h)))), 0, true⟩,
    ⟨(some (.o (.o (.i (.o (.o .h)))))), none, .bin .add (.c (.int .i64 4867)) (.s (.i (.i (.o (.o (.o .h)))))), 0, true⟩,
    ⟨(some (.i (.o (.i (.o (.o .h)))))), none, .bsl 1 1 [(.int .i64 0)] [(0, 1, (.s (.o (.o (.i (.o (.o .h)))))))], 0, true⟩,
    ⟨(some (.o (.i (.i (.o (.o .h)))))), none, .lea 1 (.s (.o (.o (.o .h)))), 0, true⟩,
    ⟨none, none, .store 1 (.s (.o (.i (.i (.o (.o .h)))))) (.s (.i (.o (.i (.o (.o .h)))))), 0, true⟩] 0)
   (.seq (.reg [⟨(some (.o (.o (.o (.i (.o .h)))))), none, .bin .eql (.s (.o (.o (.i (.o .h))))) (.c (.int .u64 3)), 0, true⟩,
    ⟨(some (.i (.i (.i (.o (.o .h)))))), none, .mov (.s (.o (.o (.o (.i (.o .h)))))), 0, true⟩] 0)
   (.cond (.s (.i (.i (.i (.o (.o .h))))))
   (.reg [⟨(some (.i (.o (.o (.i (.o .h)))))), none, .lea 2 (.s (.o (.o (.o .h)))), 0, true⟩,
    ⟨none, none, .store 1 (.s (.i (.o (.o (.i (.o .h)))))) (.c .nils), 0, true⟩] 0)
   (.seq (.reg [⟨(some (.i (.i (.o (.i (.o .h)))))), none, .bin .eql (.s (.o (.o (.i (.o .h))))) (.c (.int .u64 4)), 0, true⟩,
    ⟨(some (.o (.i (.o (.i (.o .h)))))), none, .mov (.s (.i (.i (.o (.i (.o .h)))))), 0, true⟩] 0)
   (.cond (.s (.o (.i (.o (.i (.o .h))))))
   (.reg [⟨(some (.o (.o (.i (.i (.o .h)))))), none, .bsl 1 2 [(.int .i64 0), (.int .i64 0)] [(0, 1, (.c (.int .i64 23))), (1, 1, (.c (.int .i64 23)))], 0, true⟩,
    ⟨(some (.i (.o (.i (.i (.o .h)))))), none, .lea 2 (.s (.o (.o (.o .h)))), 0, true⟩,
    ⟨none, none, .store 1 (.s (.i (.o (.i (.i (.o .h)))))) (.s (.o (.o (.i (.i (.o .h)))))), 0, true⟩] 0)
   (.seq (.reg [⟨(some (.i (.i (.i (.i (.o .h)))))), none, .bin .eql (.s (.o (.o (.i (.o .h))))) (.c (.int .u64 5)), 0, true⟩,
    ⟨(some (.o (.i (.i (.i (.o .h)))))), none, .mov (.s (.i (.i (.i (.i (.o .h)))))), 0, true⟩] 0)
   (.cond (.s (.o (.i (.i (.i (.o .h))))))
   (.reg [⟨(some (.o (.o (.o (.o (.i .h)))))), none, .mov (.s (.i (.o (.o .h)))), 0, true⟩,
    ⟨(some (.i (.o (.o (.o (.i .h)))))), none, .bin .add (.c (.int .i64 30)) (.s (.o (.o (.o (.o (.i .h)))))), 0, true⟩,
    ⟨(some (.o (.i (.o (.o (.i .h)))))), none, .bsl 1 1 [(.int .i64 0)] [(0, 1, (.s (.i (.o (.o (.o (.i .h)))))))], 0, true⟩,
    ⟨(some (.i (.i (.o (.o (.i .h)))))), none, .lea 2 (.s (.o (.o (.o .h)))), 0, true⟩,
    ⟨none, none, .store 1 (.s (.i (.i (.o (.o (.i .h)))))) (.s (.o (.i (.o (.o (.i .h)))))), 0, true⟩] 0)
   (.seq (.reg [⟨(some (.i (.o (.i (.o (.i .h)))))), none, .bin .eql (.s (.o (.o (.i (.o .h))))) (.c (.int .u64 6)), 0, true⟩,
    ⟨(some (.o (.o (.i (.o (.i .h)))))), none, .mov (.s (.i (.o (.i (.o (.i .h)))))), 0, true⟩] 0)
   (.cond (.s (.o (.o (.i (.o (.i .h))))))
   (.reg [⟨(some (.o (.i (.i (.o (.i .h)))))), none, .mov (.s (.i (.o (.o .h)))), 0, true⟩,
    ⟨(some (.i (.i (.i (.o (.i .h)))))), none, .un .neg (.s (.o (.i (.i (.o (.i .h)))))), 0, true⟩,
    ⟨(some (.o (.o (.o (.i (.i .h)))))), none, .lea 11 (.s (.o (.o (.o .h)))), 0, true⟩,
    ⟨none, none, .store 1 (.s (.o (.o (.o (.i (.i .h)))))) (.s (.i (.i (.i (.o (.i .h)))))), 0, true⟩] 0)
   (.seq (.reg [⟨(some (.o (.i (.o (.i (.i .h)))))), none, .bin .eql (.s (.o (.o (.i (.o .h))))) (.c (.int .u64 7)), 0, true⟩,
    ⟨(some (.i (.o (.o (.i (.i .h)))))), none, .mov (.s (.o (.i (.o (.i (.i .h)))))), 0, true⟩] 0)
   (.cond (.s (.i (.o (.o (.i (.i .h))))))
   (.reg [⟨(some (.i (.i (.o (.i (.i .h)))))), none, .mov (.s (.i (.o (.o .h)))), 0, true⟩,
    ⟨(some (.o (.o (.i (.i (.i .h)))))), none, .bin .add (.c (.int .i64 4294967295)) (.s (.i (.i (.o (.i (.i .h)))))), 0, true⟩,
    ⟨(some (.i (.o (.i (.i (.i .h)))))), none, .lea 11 (.s (.o (.o (.o .h)))), 0, true⟩,
    ⟨none, none, .store 1 (.s (.i (.o (.i (.i (.i .h)))))) (.s (.o (.o (.i (.i (.i .h)))))), 0, true⟩] 0)
   (.seq (.reg [⟨(some (.i (.i (.i (.i (.i .h)))))), none, .bin .eql (.s (.o (.o (.i (.o .h))))) (.c (.int .u64 8)), 0, true⟩,
    ⟨(some (.o (.i (.i (.i (.i .h)))))), none, .mov (.s (.i (.i (.i (.i (.i .h)))))), 0, true⟩] 0)
   (.cond (.s (.o (.i (.i (.i (.i .h))))))
   (.reg [⟨(some (.o (.o (.o (.o (.o (.o .h))))))), none, .mov (.s (.i (.o (.o .h)))), 0, true⟩,
    ⟨(some (.i (.o (.o (.o (.o (.o .h))))))), none, .un .neg (.s (.o (.o (.o (.o (.o (.o .h))))))), 0, true⟩,
    ⟨(some (.o (.i (.o (.o (.o (.o .h))))))), none, .lea 12 (.s (.o (.o (.o .h)))), 0, true⟩,
    ⟨none, none, .store 1 (.s (.o (.i (.o (.o (.o (.o .h))))))) (.s (.i (.o (.o (.o (.o (.o .h))))))), 0, true⟩] 0)
   (.seq (.reg [⟨(some (.o (.o (.i (.o (.o (.o .h))))))), none, .bin .eql (.s (.o (.o (.i (.o .h))))) (.c (.int .u64 9)), 0, true⟩,
    ⟨(some (.i (.i (.o (.o (.o (.o .h))))))), none, .mov (.s (.o (.o (.i (.o (.o (.o .h))))))), 0, true⟩] 0)
   (.cond (.s (.i (.i (.o (.o (.o (.o .h)))))))
   (.reg [⟨(some (.i (.o (.i (.o (.o (.o .h))))))), none, .mov (.s (.i (.o (.o .h)))), 0, true⟩,
    ⟨(some (.o (.i (.i (.o (.o (.o .h))))))), none, .bin .add (.c (.int .i64 16384)) (.s (.i (.o (.i (.o (.o (.o .h))))))), 0, true⟩,
    ⟨(some (.i (.i (.i (.o (.o (.o .h))))))), none, .lea 12 (.s (.o (.o (.o .h)))), 0, true⟩,
    ⟨none, none, .store 1 (.s (.i (.i (.i (.o (.o (.o .h))))))) (.s (.o (.i (.i (.o (.o (.o .h))))))), 0, true⟩] 0)
   (.seq (.reg [⟨(some (.i (.o (.o (.i (.o (.o .h))))))), none, .bin .eql (.s (.o (.o (.i (.o .h))))) (.c (.int .u64 10)), 0, true⟩,
    ⟨(some (.o (.o (.o (.i (.o (.o .h))))))), none, .mov (.s (.i (.o (.o (.i (.o (.o .h))))))), 0, true⟩] 0)
   (.cond (.s (.o (.o (.o (.i (.o (.o .h)))))))
   (.reg [⟨(some (.o (.i (.o (.i (.o (.o .h))))))), none, .mov (.s (.i (.o (.o .h)))), 0, true⟩,
    ⟨(some (.i (.i (.o (.i (.o (.o .h))))))), none, .bin .sub (.c (.int .i64 4)) (.s (.o (.i (.o (.i (.o (.o .h))))))), 0, true⟩,
    ⟨(some (.o (.o (.i (.i (.o (.o .h))))))), none, .lea 13 (.s (.o (.o (.o .h)))), 0, true⟩,
    ⟨none, none, .store 1 (.s (.o (.o (.i (.i (.o (.o .h))))))) (.s (.i (.i (.o (.i (.o (.o .h))))))), 0, true⟩] 0)
   (.seq (.reg [⟨(some (.o (.i (.i (.i (.o (.o .h))))))), none, .bin .eql (.s (.o (.o (.i (.o .h))))) (.c (.int .u64 11)), 0, true⟩,
    ⟨(some (.i (.o (.i (.i (.o (.o .h))))))), none, .mov (.s (.o (.i (.i (.i (.o (.o .h))))))), 0, true⟩] 0)
   (.cond (.s (.i (.o (.i (.i (.o (.o .h)))))))
   (.reg [⟨(some (.i (.i (.i (.i (.o (.o .h))))))), none, .mov (.s (.i (.o (.o .h)))), 0, true⟩,
    ⟨(some (.o (.o (.o (.o (.i (.o .h))))))), none, .bin .add (.c (.int .i64 16777216)) (.s (.i (.i (.i (.i (.o (.o .h))))))), 0, true⟩,
    ⟨(some (.i (.o (.o (.o (.i (.o .h))))))), none, .lea 13 (.s (.o (.o (.o .h)))), 0, true⟩,
    ⟨none, none, .store 1 (.s (.i (.o (.o (.o (.i (.o .h))))))) (.s (.o (.o (.o (.o (.i (.o .h))))))), 0, true⟩] 0)
   (.seq (.reg [⟨(some (.i (.i (.o (.o (.i (.o .h))))))), none, .bin .eql (.s (.o (.o (.i (.o .h))))) (.c (.int .u64 12)), 0, true⟩,
    ⟨(some (.o (.i (.o (.o (.i (.o .h))))))), none, .mov (.s (.i (.i (.o (.o (.i (.o .h))))))), 0, true⟩] 0)
   (.cond (.s (.o (.i (.o (.o (.i (.o .h)))))))
   (.reg [⟨(some (.o (.o (.i (.o (.i (.o .h))))))), none, .mov (.s (.i (.o (.o .h)))), 0, true⟩,
    ⟨(some (.i (.o (.i (.o (.i (.o .h))))))), none, .bin .sub (.c (.int .i64 33290)) (.s (.o (.o (.i (.o (.i (.o .h))))))), 0, true⟩,
    ⟨(some (.o (.i (.i (.o (.i (.o .h))))))), none, .lea 14 (.s (.o (.o (.o .h)))), 0, true⟩,
    ⟨none, none, .store 1 (.s (.o (.i (.i (.o (.i (.o .h))))))) (.s (.i (.o (.i (.o (.i (.o .h))))))), 0, true⟩] 0)
   (.seq (.reg [⟨(some (.o (.o (.o (.i (.i (.o .h))))))), none, .bin .eql (.s (.o (.o (.i (.o .h))))) (.c (.int .u64 13)), 0, true⟩,
    ⟨(some (.i (.i (.i (.o (.i (.o .h))))))), none, .mov (.s (.o (.o (.o (.i (.i (.o .h))))))), 0, true⟩] 0)
   (.cond (.s (.i (.i (.i (.o (.i (.o .h)))))))
   (.reg [⟨(some (.i (.o (.o (.i (.i (.o .h))))))), none, .mov (.s (.i (.o (.o .h)))), 0, true⟩,
    ⟨(some (.o (.i (.o (.i (.i (.o .h))))))), none, .bin .add (.c (.int .i64 262144)) (.s (.i (.o (.o (.i (.i (.o .h))))))), 0, true⟩,
    ⟨(some (.i (.i (.o (.i (.i (.o .h))))))), none, .lea 14 (.s (.o (.o (.o .h)))), 0, true⟩,
    ⟨none, none, .store 1 (.s (.i (.i (.o (.i (.i (.o .h))))))) (.s (.o (.i (.o (.i (.i (.o .h))))))), 0, true⟩] 0)
   (.seq (.reg [⟨(some (.i (.o (.i (.i (.i (.o .h))))))), none, .bin .eql (.s (.o (.o (.i (.o .h))))) (.c (.int .u64 14)), 0, true⟩,
    ⟨(some (.o (.o (.i (.i (.i (.o .h))))))), none, .mov (.s (.i (.o (.i (.i (.i (.o .h))))))), 0, true⟩] 0)
   (.cond (.s (.o (.o (.i (.i (.i (.o .h)))))))
   (.reg [⟨(some (.o (.i (.i (.i (.i (.o .h))))))), none, .mov (.s (.i (.o (.o .h)))), 0, true⟩,
    ⟨(some (.i (.i (.i (.i (.i (.o .h))))))), none, .bin .add (.c (.int .i64 65536)) (.s (.o (.i (.i (.i (.i (.o .h))))))), 0, true⟩,
    ⟨(some (.o (.o (.o (.o (.o (.i .h))))))), none, .call (.o (.o (.o (.o .h)))) [(.s (.i (.i (.i (.i (.i (.o .h)))))))], 0, true⟩,
    ⟨(some (.i (.o (.o (.o (.o (.i .h))))))), none, .lea 10 (.s (.o (.o (.o .h)))), 0, true⟩,
    ⟨none, none, .store 1 (.s (.i (.o (.o (.o (.o (.i .h))))))) (.s (.o (.o (.o (.o (.o (.i .h))))))), 0, true⟩] 0)
   (.seq (.reg [⟨(some (.i (.i (.o (.o (.o (.i .h))))))), none, .bin .eql (.s (.o (.o (.i (.o .h))))) (.c (.int .u64 15)), 0, true⟩,
    ⟨(some (.o (.i (.o (.o (.o (.i .h))))))), none, .mov (.s (.i (.i (.o (.o (.o (.i .h))))))), 0, true⟩] 0)
   (.cond (.s (.o (.i (.o (.o (.o (.i .h)))))))
   (.reg [⟨(some (.o (.o (.i (.o (.o (.i .h))))))), none, .lea 0 (.s (.o (.o (.o .h)))), 0, true⟩,
    ⟨(some (.i (.o (.i (.o (.o (.i .h))))))), none, .load false 1 (.s (.o (.o (.i (.o (.o (.i .h))))))), 0, true⟩,
    ⟨(some (.o (.i (.i (.o (.o (.i .h))))))), none, .un .not (.s (.i (.o (.i (.o (.o (.i .h))))))), 0, true⟩,
    ⟨(some (.i (.i (.i (.o (.o (.i .h))))))), none, .lea 0 (.s (.o (.o (.o .h)))), 0, true⟩,
    ⟨none, none, .store 1 (.s (.i (.i (.i (.o (.o (.i .h))))))) (.s (.o (.i (.i (.o (.o (.i .h))))))), 0, true⟩] 0)
   (.seq (.reg [⟨(some (.i (.o (.o (.i (.o (.i .h))))))), none, .bin .eql (.s (.o (.o (.i (.o .h))))) (.c (.int .u64 16)), 0, true⟩,
    ⟨(some (.o (.o (.o (.i (.o (.i .h))))))), none, .mov (.s (.i (.o (.o (.i (.o (.i .h))))))), 0, true⟩] 0)
   (.cond (.s (.o (.o (.o (.i (.o (.i .h)))))))
   (.reg [⟨(some (.o (.i (.o (.i (.o (.i .h))))))), none, .mov (.s (.i (.o (.o .h)))), 0, true⟩,
    ⟨(some (.i (.i (.o (.i (.o (.i .h))))))), none, .lea 7 (.s (.o (.o (.o .h)))), 0, true⟩,
    ⟨none, none, .store 1 (.s (.i (.i (.o (.i (.o (.i .h))))))) (.s (.o (.i (.o (.i (.o (.i .h))))))), 0, true⟩] 0)
   (.seq (.reg [⟨(some (.i (.o (.i (.i (.o (.i .h))))))), none, .bin .eql (.s (.o (.o (.i (.o .h))))) (.c (.int .u64 17)), 0, true⟩,
    ⟨(some (.o (.o (.i (.i (.o (.i .h))))))), none, .mov (.s (.i (.o (.i (.i (.o (.i .h))))))), 0, true⟩] 0)
   (.cond (.s (.o (.o (.i (.i (.o (.i .h)))))))
   (.reg [⟨(some (.o (.i (.i (.i (.o (.i .h))))))), none, .mov (.s (.i (.o (.o .h)))), 0, true⟩,
    ⟨(some (.i (.i (.i (.i (.o (.i .h))))))), none, .bin .and (.s (.o (.i (.i (.i (.o (.i .h))))))) (.c (.int .i64 31)), 0, true⟩,
    ⟨(some (.o (.o (.o (.o (.i (.i .h))))))), none, .bin .sub (.c (.int .i64 32)) (.s (.i (.i (.i (.i (.o (.i .h))))))), 0, true⟩,
    ⟨(some (.i (.o (.o (.o (.i (.i .h))))))), none, .call (.o (.o (.o (.o .h)))) [(.s (.o (.o (.o (.o (.i (.i .h)))))))], 0, true⟩,
    ⟨(some (.o (.i (.o (.o (.i (.i .h))))))), none, .lea 8 (.s (.o (.o (.o .h)))), 0, true⟩,
    ⟨none, none, .store 1 (.s (.o (.i (.o (.o (.i (.i .h))))))) (.s (.i (.o (.o (.o (.i (.i .h))))))), 0, true⟩] 0)
   (.seq (.reg [⟨(some (.o (.o (.i (.o (.i (.i .h))))))), none, .bin .eql (.s (.o (.o (.i (.o .h))))) (.c (.int .u64 18)), 0, true⟩,
    ⟨(some (.i (.i (.o (.o (.i (.i .h))))))), none, .mov (.s (.o (.o (.i (.o (.i (.i .h))))))), 0, true⟩] 0)
   (.cond (.s (.i (.i (.o (.o (.i (.i .h)))))))
   (.reg [⟨(some (.i (.o (.i (.o (.i (.i .h))))))), none, .lea 3 (.s (.o (.o (.o .h)))), 0, true⟩,
    ⟨(some (.o (.i (.i (.o (.i (.i .h))))))), none, .load false 1 (.s (.i (.o (.i (.o (.i (.i .h))))))), 0, true⟩,
    ⟨(some (.i (.i (.i (.o (.i (.i .h))))))), none, .bsl 1 1 [(.str [])] [(0, 1, (.c (.str [])))], 0, true⟩,
    ⟨(some (.o (.o (.o (.i (.i (.i .h))))))), none, .app 1 16 (.s (.o (.i (.i (.o (.i (.i .h))))))) (.s (.i (.i (.i (.o (.i (.i .h))))))), 0, true⟩,
    ⟨(some (.i (.o (.o (.i (.i (.i .h))))))), none, .lea 3 (.s (.o (.o (.o .h)))), 0, true⟩,
    ⟨none, none, .store 1 (.s (.i (.o (.o (.i (.i (.i .h))))))) (.s (.o (.o (.o (.i (.i (.i .h))))))), 0, true⟩] 0)
   (.reg [⟨(some (.i (.o (.i (.o .h))))), none, .mov (.s (.i (.o (.o .h)))), 0, true⟩,
    ⟨(some (.o (.i (.i (.o .h))))), none, .bin .add (.c (.int .i64 16384)) (.s (.i (.o (.i (.o .h))))), 0, true⟩,
    ⟨(some (.i (.i (.i (.o .h))))), none, .call (.o (.o (.o (.o .h)))) [(.s (.o (.i (.i (.o .h)))))], 0, true⟩,
    ⟨(some (.o (.o (.o (.i .h))))), none, .bsl 1 1 [(.str [])] [(0, 1, (.s (.i (.i (.i (.o .h))))))], 0, true⟩,
    ⟨(some (.i (.o (.o (.i .h))))), none, .lea 5 (.s (.o (.o (.o .h)))), 0, true⟩,
    ⟨none, none, .store 1 (.s (.i (.o (.o (.i .h))))) (.s (.o (.o (.o (.i .h))))), 0, true⟩] 0)))))))))))))))))))))))))))))))))))))))))
   (.seq (.seq (.reg [⟨(some (.o (.i (.o (.i (.i (.i .h))))))), none, .mov (.s .h), 0, true⟩,
    ⟨(some (.i (.i (.o (.i (.i (.i .h))))))), none, .conv .u64 (.s (.o (.i (.o (.i (.i (.i .h))))))), 0, true⟩,
    ⟨(some (.o (.o (.i (.i (.i (.i .h))))))), none, .bin .rem (.s (.i (.i (.o (.i (.i (.i .h))))))) (.c (.int .u64 20)), 0, true⟩,
    ⟨(some (.i (.o (.i (.i (.i (.i .h))))))), none, .bin .eql (.s (.o (.o (.i (.i (.i (.i .h))))))) (.c (.int .u64 17)), 0, true⟩,
    ⟨(some (.o (.i (.i (.i (.i (.i .h))))))), none, .mov (.s (.i (.o (.i (.i (.i (.i .h))))))), 0, true⟩,
    ⟨(some (.i (.i (.i (.i (.i (.i .h))))))), (some ((.o (.i (.i (.i (.i (.i .h)))))), true)), .mov (.s (.i (.o (.o .h)))), 0, true⟩,
    ⟨(some (.o (.o (.o (.o (.o (.o (.o .h)))))))), (some ((.o (.i (.i (.i (.i (.i .h)))))), true)), .bin .and (.s (.i (.i (.i (.i (.i (.i .h))))))) (.c (.int .i64 31)), 0, true⟩,
    ⟨(some (.i (.o (.o (.o (.o (.o (.o .h)))))))), (some ((.o (.i (.i (.i (.i (.i .h)))))), true)), .bin .eql (.s (.o (.o (.o (.o (.o (.o (.o .h)))))))) (.c (.int .i64 0)), 0, true⟩,
    ⟨(some (.o (.i (.o (.o (.o (.o (.o .h)))))))), none, .pick (.s (.o (.i (.i (.i (.i (.i .h))))))) (.s (.i (.o (.o (.o (.o (.o (.o .h)))))))) (.c (.bool false)), 0, true⟩] 0)
   (.cond (.s (.o (.i (.o (.o (.o (.o (.o .h))))))))
   (.seq (.reg [⟨(some (.i (.i (.o (.o (.o (.o (.o .h)))))))), none, .load true 15 (.s (.o (.o (.o .h)))), 0, true⟩,
    ⟨(some (.o (.o (.i (.o (.o (.o (.o .h)))))))), none, .call (.o (.o (.i .h))) [(.s (.i (.i (.o (.o (.o (.o (.o .h))))))))], 0, true⟩,
    ⟨(some (.i (.o (.i (.o (.o (.o (.o .h)))))))), none, .mov (.s (.i .h)), 0, true⟩,
    ⟨(some (.o (.i (.i (.o (.o (.o (.o .h)))))))), none, .eqb false (.s (.o (.o (.i (.o (.o (.o (.o .h)))))))) (.s (.i (.o (.i (.o (.o (.o (.o .h)))))))), 0, true⟩,
    ⟨(some (.i (.i (.i (.o (.o (.o (.o .h)))))))), none, .mov (.s (.o (.i (.i (.o (.o (.o (.o .h)))))))), 0, true⟩,
    ⟨(some (.o (.o (.o (.i (.o (.o (.o .h)))))))), (some ((.i (.i (.i (.o (.o (.o (.o .h))))))), true)), .call (.o (.i (.i .h))) [], 0, true⟩,
    ⟨(some (.i (.o (.o (.i (.o (.o (.o .h)))))))), (some ((.i (.i (.i (.o (.o (.o (.o .h))))))), true)), .call (.o (.o (.i .h))) [(.s (.o (.o (.o (.i (.o (.o (.o .h))))))))], 0, true⟩,
    ⟨(some (.o (.i (.o (.i (.o (.o (.o .h)))))))), none, .pick (.s (.i (.i (.i (.o (.o (.o (.o .h)))))))) (.s (.i (.o (.o (.i (.o (.o (.o .h)))))))) (.c (.bool false)), 0, true⟩,
    ⟨(some (.i (.i (.o (.i (.o (.o (.o .h)))))))), none, .mov (.s (.o (.i (.o (.i (.o (.o (.o .h)))))))), 0, true⟩,
    ⟨(some (.o (.o (.i (.i (.o (.o (.o .h)))))))), (some ((.i (.i (.o (.i (.o (.o (.o .h))))))), true)), .call (.i (.i (.i .h))) [], 0, true⟩,
    ⟨(some (.i (.o (.i (.i (.o (.o (.o .h)))))))), (some ((.i (.i (.o (.i (.o (.o (.o .h))))))), true)), .call (.o (.o (.i .h))) [(.s (.o (.o (.i (.i (.o (.o (.o .h))))))))], 0, true⟩,
    ⟨(some (.o (.i (.i (.i (.o (.o (.o .h)))))))), none, .pick (.s (.i (.i (.o (.i (.o (.o (.o .h)))))))) (.s (.i (.o (.i (.i (.o (.o (.o .h)))))))) (.c (.bool false)), 0, true⟩,
    ⟨(some (.i (.i .h))), none, .mov (.s (.o (.i (.i (.i (.o (.o (.o .h)))))))), 0, true⟩] 0)
   .ret)
   .skip))
   (.seq (.reg [⟨(some (.i (.i (.i (.i (.o (.o (.o .h)))))))), none, .load true 15 (.s (.o (.o (.o .h)))), 0, true⟩,
    ⟨(some (.o (.o (.o (.o (.i (.o (.o .h)))))))), none, .call (.o (.o (.i .h))) [(.s (.i (.i (.i (.i (.o (.o (.o .h))))))))], 0, true⟩,
    ⟨(some (.i (.o (.o (.o (.i (.o (.o .h)))))))), none, .un .not (.s (.o (.o (.o (.o (.i (.o (.o .h)))))))), 0, true⟩,
    ⟨(some (.o (.i (.o (.o (.i (.o (.o .h)))))))), none, .mov (.s (.i (.o (.o (.o (.i (.o (.o .h)))))))), 0, true⟩,
    ⟨(some (.i (.i (.o (.o (.i (.o (.o .h)))))))), (some ((.o (.i (.o (.o (.i (.o (.o .h))))))), true)), .call (.o (.i (.i .h))) [], 0, true⟩,
    ⟨(some (.o (.o (.i (.o (.i (.o (.o .h)))))))), (some ((.o (.i (.o (.o (.i (.o (.o .h))))))), true)), .call (.o (.o (.i .h))) [(.s (.i (.i (.o (.o (.i (.o (.o .h))))))))], 0, true⟩,
    ⟨(some (.i (.o (.i (.o (.i (.o (.o .h)))))))), none, .pick (.s (.o (.i (.o (.o (.i (.o (.o .h)))))))) (.s (.o (.o (.i (.o (.i (.o (.o .h)))))))) (.c (.bool false)), 0, true⟩,
    ⟨(some (.o (.i (.i (.o (.i (.o (.o .h)))))))), none, .mov (.s (.i (.o (.i (.o (.i (.o (.o .h)))))))), 0, true⟩,
    ⟨(some (.i (.i (.i (.o (.i (.o (.o .h)))))))), (some ((.o (.i (.i (.o (.i (.o (.o .h))))))), true)), .call (.i (.i (.i .h))) [], 0, true⟩,
    ⟨(some (.o (.o (.o (.i (.i (.o (.o .h)))))))), (some ((.o (.i (.i (.o (.i (.o (.o .h))))))), true)), .call (.o (.o (.i .h))) [(.s (.i (.i (.i (.o (.i (.o (.o .h))))))))], 0, true⟩,
    ⟨(some (.i (.o (.o (.i (.i (.o (.o .h)))))))), none, .pick (.s (.o (.i (.i (.o (.i (.o (.o .h)))))))) (.s (.o (.o (.o (.i (.i (.o (.o .h)))))))) (.c (.bool false)), 0, true⟩,
    ⟨(some (.i (.i .h))), none, .mov (.s (.i (.o (.o (.i (.i (.o (.o .h)))))))), 0, true⟩] 0)
   .ret)))))))) }

/-- halberd/halberdlaw24.HelloOrder -/
noncomputable def d6 : Go.AE.Fd := { np := 2, res := [.tmp (.i (.o .h))], code :=
   (.seq (.reg [⟨(some (.i (.o .h))), none, .mov (.c (.bool false)), 0, true⟩] 0)
   (.seq (.seq (.reg [⟨(some (.o (.i (.o .h)))), none, .call (.o (.i (.o .h))) [], 0, true⟩,
    ⟨(some (.i (.i (.o .h)))), none, .un .not (.s (.o (.i (.o .h)))), 0, true⟩] 0)
   (.cond (.s (.i (.i (.o .h))))
   (.seq (.reg [⟨(some (.i (.o .h))), none, .mov (.c (.bool false)), 0, true⟩] 0)
   .ret)
   .skip))
   (.seq (.reg [⟨(some (.o (.o (.i .h)))), none, .call (.i (.i (.i .h))) [], 0, true⟩,
    ⟨(some (.o (.i .h))), none, .alloc [(.bool false), .nils, .nils, .nils, (.str []), .nils, (.str []), (.int .i64 0), (.str []), .nils, (.str []), (.int .i64 0), (.int .i64 0), (.int .i64 0), (.int .i64 0)], 0, true⟩,
    ⟨none, none, .store 15 (.s (.o (.i .h))) (.s (.o (.o (.i .h)))), 0, true⟩] 0)
   (.seq (.reg [⟨(some (.i (.o (.i .h)))), none, .call (.o (.o (.o (.o .h)))) [(.c (.int .i64 32))], 0, true⟩,
    ⟨(some (.o (.i (.i .h)))), none, .bsl 1 1 [(.int .i64 0)] [(0, 1, (.c (.int .i64 4865)))], 0, true⟩,
    ⟨(some (.i (.i (.i .h)))), none, .bsl 1 2 [(.int .i64 0), (.int .i64 0)] [(0, 1, (.c (.int .i64 771))), (1, 1, (.c (.int .i64 772)))], 0, true⟩,
    ⟨(some (.o (.o (.o (.o .h))))), none, .bsl 1 1 [(.int .i64 0)] [(0, 1, (.c (.int .i64 29)))], 0, true⟩,
    ⟨(some (.i (.o (.o (.o .h))))), none, .bsl 1 1 [(.int .i64 0)] [(0, 1, (.c (.int .i64 1027)))], 0, true⟩,
    ⟨(some (.o (.i (.o (.o .h))))), none, .build [(.int .i64 0), (.str [])] [(0, 1, (.c (.int .i64 29))), (1, 1, (.c (.str [107])))], 0, true⟩,
    ⟨(some (.i (.i (.o (.o .h))))), none, .bsl 2 1 [(.int .i64 0), (.str [])] [(0, 2, (.s (.o (.i (.o (.o .h))))))], 0, true⟩,
    ⟨(some (.o (.o (.i (.o .h))))), none, .build [(.int .i64 0), (.str []), (.str []), .nils, (.str []), .nils, .nils, .nils, .nils, .nils, .nils, .nils, (.int .i64 0), .nils, .nils, (.int .i64 0), (.str []), (.int .i64 0), (.int .i64 0), (.str []), (.int .i64 0)] [(0, 1, (.c (.int .i64 1))), (1, 1, (.s (.i (.o (.i .h))))), (3, 1, (.s (.o (.i (.i .h))))), (5, 1, (.s (.i (.i (.i .h))))), (6, 1, (.s (.o (.o (.o (.o .h)))))), (7, 1, (.s (.i (.o (.o (.o .h)))))), (9, 1, (.s (.i (.i (.o (.o .h))))))], 0, true⟩,
    ⟨(some (.i (.i .h))), none, .alloc [(.int .i64 0), (.str []), (.str []), .nils, (.str []), .nils, .nils, .nils, .nils, .nils, .nils, .nils, (.int .i64 0), .nils, .nils, (.int .i64 0), (.str []), (.int .i64 0), (.int .i64 0), (.str []), (.int .i64 0)], 0, true⟩,
    ⟨none, none, .store 21 (.s (.i (.i .h))) (.s (.o (.o (.i (.o .h))))), 0, true⟩] 0)
   (.seq (.reg [⟨(some (.o (.o (.o .h)))), none, .mov (.c (.int .i64 (-1))), 0, true⟩] 0)
   (.seq (.seq (.reg [⟨(some (.i (.o (.i (.o .h))))), none, .mov (.s .h), 0, true⟩,
    ⟨(some (.o (.i (.i (.o .h))))), none, .bin .shr (.s (.i (.o (.i (.o .h))))) (.c (.int .u64 6)), 0, true⟩,
    ⟨(some (.i (.i (.i (.o .h))))), none, .bin .and (.s (.o (.i (.i (.o .h))))) (.c (.int .i64 1)), 0, true⟩,
    ⟨(some (.o (.o (.o (.i .h))))), none, .bin .eql (.s (.i (.i (.i (.o .h))))) (.c (.int .i64 1)), 0, true⟩] 0)
   (.cond (.s (.o (.o (.o (.i .h)))))
   (.seq (.reg [⟨(some (.i (.o (.o (.i .h))))), none, .bsl 1 1 [(.int .i64 0)] [(0, 1, (.c (.int .i64 7)))], 0, true⟩,
    ⟨(some (.o (.i (.o (.i .h))))), none, .lea 7 (.s (.i (.i .h))), 0, true⟩,
    ⟨none, none, .store 1 (.s (.o (.i (.o (.i .h))))) (.s (.i (.o (.o (.i .h))))), 0, true⟩] 0)
   (.reg [⟨(some (.o (.o (.o .h)))), none, .mov (.c (.int .i64 40)), 0, true⟩] 0))
   .skip))
   (.seq (.seq (.reg [⟨(some (.i (.i (.o (.i .h))))), none, .mov (.s .h), 0, true⟩,
    ⟨(some (.o (.o (.i (.i .h))))), none, .bin .shr (.s (.i (.i (.o (.i .h))))) (.c (.int .u64 5)), 0, true⟩,
    ⟨(some (.i (.o (.i (.i .h))))), none, .bin .and (.s (.o (.o (.i (.i .h))))) (.c (.int .i64 1)), 0, true⟩,
    ⟨(some (.o (.i (.i (.i .h))))), none, .bin .eql (.s (.i (.o (.i (.i .h))))) (.c (.int .i64 1)), 0, true⟩] 0)
   (.cond (.s (.o (.i (.i (.i .h)))))
   (.seq (.reg [⟨(some (.i (.i (.i (.i .h))))), none, .lea 7 (.s (.i (.i .h))), 0, true⟩,
    ⟨none, none, .store 1 (.s (.i (.i (.i (.i .h))))) (.c .nils), 0, true⟩] 0)
   (.reg [⟨(some (.o (.o (.o .h)))), none, .mov (.c (.int .i64 109)), 0, true⟩] 0))
   .skip))
   (.seq (.seq (.reg [⟨(some (.o (.o (.o (.o (.o .h)))))), none, .mov (.s .h), 0, true⟩,
    ⟨(some (.i (.o (.o (.o (.o .h)))))), none, .bin .shr (.s (.o (.o (.o (.o (.o .h)))))) (.c (.int .u64 4)), 0, true⟩,
    ⟨(some (.o (.i (.o (.o (.o .h)))))), none, .bin .and (.s (.i (.o (.o (.o (.o .h)))))) (.c (.int .i64 1)), 0, true⟩,
    ⟨(some (.i (.i (.o (.o (.o .h)))))), none, .bin .eql (.s (.o (.i (.o (.o (.o .h)))))) (.c (.int .i64 1)), 0, true⟩] 0)
   (.cond (.s (.i (.i (.o (.o (.o .h))))))
   (.seq (.reg [⟨(some (.o (.o (.i (.o (.o .h)))))), none, .lea 9 (.s (.i (.i .h))), 0, false⟩,
    ⟨(some (.i (.o (.i (.o (.o .h)))))), none, .load false 1 (.s (.o (.o (.i (.o (.o .h)))))), 0, false⟩,
    ⟨(some (.o (.i (.i (.o (.o .h)))))), none, .lea 9 (.s (.i (.i .h))), 0, false⟩,
    ⟨(some (.i (.i (.i (.o (.o .h)))))), none, .load false 1 (.s (.o (.i (.i (.o (.o .h)))))), 0, false⟩,
    ⟨(some (.o (.o (.o (.i (.o .h)))))), none, .ixS 2 (.s (.i (.i (.i (.o (.o .h)))))) (.c (.int .i64 0)), 0, false⟩,
    ⟨(some (.i (.o (.o (.i (.o .h)))))), none, .load true 2 (.s (.o (.o (.o (.i (.o .h)))))), 0, false⟩,
    ⟨(some (.o (.i (.o (.i (.o .h)))))), none, .bsl 2 1 [(.int .i64 0), (.str [])] [(0, 2, (.s (.i (.o (.o (.i (.o .h)))))))], 0, false⟩,
    ⟨(some (.i (.i (.o (.i (.o .h)))))), none, .app 2 24 (.s (.i (.o (.i (.o (.o .h)))))) (.s (.o (.i (.o (.i (.o .h)))))), 1, false⟩,
    ⟨(some (.o (.o (.i (.i (.o .h)))))), none, .lea 9 (.s (.i (.i .h))), 0, false⟩,
    ⟨none, none, .store 1 (.s (.o (.o (.i (.i (.o .h)))))) (.s (.i (.i (.o (.i (.o .h)))))), 0, false⟩] 2)
   (.reg [⟨(some (.o (.o (.o .h)))), none, .mov (.c (.int .i64 47)), 0, true⟩] 0))
   .skip))
   (.seq (.seq (.reg [⟨(some (.i (.o (.i (.i (.o .h)))))), none, .mov (.s .h), 0, true⟩,
    ⟨(some (.o (.i (.i (.i (.o .h)))))), none, .bin .shr (.s (.i (.o (.i (.i (.o .h)))))) (.c (.int .u64 3)), 0, true⟩,
    ⟨(some (.i (.i (.i (.i (.o .h)))))), none, .bin .and (.s (.o (.i (.i (.i (.o .h)))))) (.c (.int .i64 1)), 0, true⟩,
    ⟨(some (.o (.o (.o (.o (.i .h)))))), none, .bin .eql (.s (.i (.i (.i (.i (.o .h)))))) (.c (.int .i64 1)), 0, true⟩] 0)
   (.cond (.s (.o (.o (.o (.o (.i .h))))))
   (.seq (.reg [⟨(some (.i (.o (.o (.o (.i .h)))))), none, .bsl 1 1 [(.int .i64 0)] [(0, 1, (.c (.int .i64 99)))], 0, true⟩,
    ⟨(some (.o (.i (.o (.o (.i .h)))))), none, .lea 6 (.s (.i (.i .h))), 0, true⟩,
    ⟨none, none, .store 1 (.s (.o (.i (.o (.o (.i .h)))))) (.s (.i (.o (.o (.o (.i .h)))))), 0, true⟩] 0)
   (.reg [⟨(some (.o (.o (.o .h)))), none, .mov (.c (.int .i64 40)), 0, true⟩] 0))
   .skip))
   (.seq (.seq (.reg [⟨(some (.i (.i (.o (.o (.i .h)))))), none, .mov (.s .h), 0, true⟩,
    ⟨(some (.o (.o (.i (.o (.i .h)))))), none, .bin .shr (.s (.i (.i (.o (.o (.i .h)))))) (.c (.int .u64 2)), 0, true⟩,
    ⟨(some (.i (.o (.i (.o (.i .h)))))), none, .bin .and (.s (.o (.o (.i (.o (.i .h)))))) (.c (.int .i64 1)), 0, true⟩,
    ⟨(some (.o (.i (.i (.o (.i .h)))))), none, .bin .eql (.s (.i (.o (.i (.o (.i .h)))))) (.c (.int .i64 1)), 0, true⟩] 0)
   (.cond (.s (.o (.i (.i (.o (.i .h))))))
   (.seq (.reg [⟨(some (.i (.i (.i (.o (.i .h)))))), none, .lea 9 (.s (.i (.i .h))), 0, true⟩,
    ⟨none, none, .store 1 (.s (.i (.i (.i (.o (.i .h)))))) (.c .nils), 0, true⟩] 0)
   (.reg [⟨(some (.o (.o (.o .h)))), none, .mov (.c (.int .i64 109)), 0, true⟩] 0))
   .skip))
   (.seq (.seq (.reg [⟨(some (.o (.o (.o (.i (.i .h)))))), none, .mov (.s .h), 0, true⟩,
    ⟨(some (.i (.o (.o (.i (.i .h)))))), none, .bin .shr (.s (.o (.o (.o (.i (.i .h)))))) (.c (.int .u64 1)), 0, true⟩,
    ⟨(some (.o (.i (.o (.i (.i .h)))))), none, .bin .and (.s (.i (.o (.o (.i (.i .h)))))) (.c (.int .i64 1)), 0, true⟩,
    ⟨(some (.i (.i (.o (.i (.i .h)))))), none, .bin .eql (.s (.o (.i (.o (.i (.i .h)))))) (.c (.int .i64 1)), 0, true⟩] 0)
   (.cond (.s (.i (.i (.o (.i (.i .h))))))
   (.seq (.reg [⟨(some (.o (.o (.i (.i (.i .h)))))), none, .bsl 1 1 [(.int .i64 0)] [(0, 1, (.c (.int .i64 4866)))], 0, true⟩,
    ⟨(some (.i (.o (.i (.i (.i .h)))))), none, .lea 3 (.s (.i (.i .h))), 0, true⟩,
    ⟨none, none, .store 1 (.s (.i (.o (.i (.i (.i .h)))))) (.s (.o (.o (.i (.i (.i .h)))))), 0, true⟩] 0)
   (.reg [⟨(some (.o (.o (.o .h)))), none, .mov (.c (.int .i64 40)), 0, true⟩] 0))
   .skip))
   (.seq (.seq (.reg [⟨(some (.o (.i (.i (.i (.i .h)))))), none, .mov (.s .h), 0, true⟩,
    ⟨(some (.i (.i (.i (.i (.i .h)))))), none, .bin .and (.s (.o (.i (.i (.i (.i .h)))))) (.c (.int .i64 1)), 0, true⟩,
    ⟨(some (.o (.o (.o (.o (.o (.o .h))))))), none, .bin .eql (.s (.i (.i (.i (.i (.i .h)))))) (.c (.int .i64 1)), 0, true⟩] 0)
   (.cond (.s (.o (.o (.o (.o (.o (.o .h)))))))
   (.seq (.reg [⟨(some (.i (.o (.o (.o (.o (.o .h))))))), none, .bsl 1 1 [(.int .i64 0)] [(0, 1, (.c (.int .i64 771)))], 0, true⟩,
    ⟨(some (.o (.i (.o (.o (.o (.o .h))))))), none, .lea 5 (.s (.i (.i .h))), 0, true⟩,
    ⟨none, none, .store 1 (.s (.o (.i (.o (.o (.o (.o .h))))))) (.s (.i (.o (.o (.o (.o (.o .h))))))), 0, true⟩] 0)
   (.reg [⟨(some (.o (.o (.o .h)))), none, .mov (.c (.int .i64 70)), 0, true⟩] 0))
   .skip))
   (.seq (.reg [⟨(some (.i (.i (.o (.o (.o (.o .h))))))), none, .load true 15 (.s (.o (.i .h))), 0, true⟩,
    ⟨(some (.o (.o (.i (.o (.o (.o .h))))))), none, .load true 21 (.s (.i (.i .h))), 0, true⟩,
    ⟨(some (.i (.o (.i (.o (.o (.o .h))))))), none, .mov (.s (.o .h)), 0, true⟩,
    ⟨(some (.o (.i (.i (.o (.o (.o .h))))))), none, .call (.i (.i (.o .h))) [(.s (.i (.i (.o (.o (.o (.o .h))))))), (.s (.o (.o (.i (.o (.o (.o .h))))))), (.s (.i (.o (.i (.o (.o (.o .h))))))), (.c (.int .i64 29))], 0, true⟩,
    ⟨(some (.i (.o (.o .h)))), none, .alloc [(.int .i64 0), (.int .i64 0), (.str []), (.bool false), (.bool false), (.int .i64 0)], 0, true⟩,
    ⟨none, none, .store 6 (.s (.i (.o (.o .h)))) (.s (.o (.i (.i (.o (.o (.o .h))))))), 0, true⟩] 0)
   (.seq (.seq (.reg [⟨(some (.i (.i (.i (.o (.o (.o .h))))))), none, .mov (.s (.o (.o (.o .h)))), 0, true⟩,
    ⟨(some (.o (.o (.o (.i (.o (.o .h))))))), none, .bin .geq (.s (.i (.i (.i (.o (.o (.o .h))))))) (.c (.int .i64 0)), 0, true⟩] 0)
   (.cond (.s (.o (.o (.o (.i (.o (.o .h)))))))
   (.seq (.reg [⟨(some (.i (.o (.o (.i (.o (.o .h))))))), none, .load true 6 (.s (.i (.o (.o .h)))), 0, true⟩,
    ⟨(some (.o (.i (.o (.i (.o (.o .h))))))), none, .mov (.s (.o (.o (.o .h)))), 0, true⟩,
    ⟨(some (.i (.i (.o (.i (.o (.o .h))))))), none, .build [(.int .i64 0), (.int .i64 0), (.str []), (.bool false), (.bool false), (.int .i64 0)] [(5, 1, (.s (.o (.i (.o (.i (.o (.o .h))))))))], 0, true⟩,
    ⟨(some (.o (.o (.i (.i (.o (.o .h))))))), none, .eqs false [.i, .i, .s, .b, .b, .i] (.s (.i (.o (.o (.i (.o (.o .h))))))) (.s (.i (.i (.o (.i (.o (.o .h))))))), 0, true⟩,
    ⟨(some (.i (.o .h))), none, .mov (.s (.o (.o (.i (.i (.o (.o .h))))))), 0, true⟩] 0)
   .ret)
   .skip))
   (.seq (.reg [⟨(some (.i (.o (.i (.i (.o (.o .h))))))), none, .load true 6 (.s (.i (.o (.o .h)))), 0, true⟩,
    ⟨(some (.o (.i (.i (.i (.o (.o .h))))))), none, .build [(.int .i64 0), (.int .i64 0), (.str []), (.bool false), (.bool false), (.int .i64 0)] [(0, 1, (.c (.int .i64 4865))), (1, 1, (.c (.int .i64 29))), (2, 1, (.c (.str [107]))), (5, 1, (.c (.int .i64 (-1))))], 0, true⟩,
    ⟨(some (.i (.i (.i (.i (.o (.o .h))))))), none, .eqs false [.i, .i, .s, .b, .b, .i] (.s (.i (.o (.i (.i (.o (.o .h))))))) (.s (.o (.i (.i (.i (.o (.o .h))))))), 0, true⟩,
    ⟨(some (.i (.o .h))), none, .mov (.s (.i (.i (.i (.i (.o (.o .h))))))), 0, true⟩] 0)
   .ret))))))))))))))) }

/-- halberd/halberdlaw24.HelloRetries -/
noncomputable def d7 : Go.AE.Fd := { np := 2, res := [.tmp (.i (.o .h))], code :=
   (.seq (.reg [⟨(some (.i (.o .h))), none, .mov (.c (.bool false)), 0, true⟩] 0)
   (.seq (.seq (.reg [⟨(some (.o (.o (.i .h)))), none, .call (.o (.i (.o .h))) [], 0, true⟩,
    ⟨(some (.i (.o (.i .h)))), none, .un .not (.s (.o (.o (.i .h)))), 0, true⟩] 0)
   (.cond (.s (.i (.o (.i .h))))
   (.seq (.reg [⟨(some (.i (.o .h))), none, .mov (.c (.bool false)), 0, true⟩] 0)
   .ret)
   .skip))
   (.seq (.reg [⟨(some (.o (.i (.i .h)))), none, .call (.i (.i (.i .h))) [], 0, true⟩,
    ⟨(some (.o (.i .h))), none, .alloc [(.bool false), .nils, .nils, .nils, (.str []), .nils, (.str []), (.int .i64 0), (.str []), .nils, (.str []), (.int .i64 0), (.int .i64 0), (.int .i64 0), (.int .i64 0)], 0, true⟩,
    ⟨none, none, .store 15 (.s (.o (.i .h))) (.s (.o (.i (.i .h)))), 0, true⟩] 0)
   (.seq (.reg [⟨(some (.i (.i (.i .h)))), none, .call (.o (.o (.o (.o .h)))) [(.c (.int .i64 32))], 0, true⟩,
    ⟨(some (.o (.o (.o (.o .h))))), none, .bsl 1 2 [(.int .i64 0), (.int .i64 0)] [(0, 1, (.c (.int .i64 4865))), (1, 1, (.c (.int .i64 4867)))], 0, true⟩,
    ⟨(some (.i (.o (.o (.o .h))))), none, .bsl 1 1 [(.int .i64 0)] [(0, 1, (.c (.int .i64 772)))], 0, true⟩,
    ⟨(some (.o (.i (.o (.o .h))))), none, .bsl 1 2 [(.int .i64 0), (.int .i64 0)] [(0, 1, (.c (.int .i64 29))), (1, 1, (.c (.int .i64 23)))], 0, true⟩,
    ⟨(some (.i (.i (.o (.o .h))))), none, .bsl 1 1 [(.int .i64 0)] [(0, 1, (.c (.int .i64 1027)))], 0, true⟩,
    ⟨(some (.o (.o (.i (.o .h))))), none, .build [(.int .i64 0), (.str [])] [(0, 1, (.c (.int .i64 29))), (1, 1, (.c (.str [107])))], 0, true⟩,
    ⟨(some (.i (.o (.i (.o .h))))), none, .bsl 2 1 [(.int .i64 0), (.str [])] [(0, 2, (.s (.o (.o (.i (.o .h))))))], 0, true⟩,
    ⟨(some (.o (.i (.i (.o .h))))), none, .build [(.int .i64 0), (.str []), (.str []), .nils, (.str []), .nils, .nils, .nils, .nils, .nils, .nils, .nils, (.int .i64 0), .nils, .nils, (.int .i64 0), (.str []), (.int .i64 0), (.int .i64 0), (.str []), (.int .i64 0)] [(0, 1, (.c (.int .i64 1))), (1, 1, (.s (.i (.i (.i .h))))), (3, 1, (.s (.o (.o (.o (.o .h)))))), (5, 1, (.s (.i (.o (.o (.o .h)))))), (6, 1, (.s (.o (.i (.o (.o .h)))))), (7, 1, (.s (.i (.i (.o (.o .h)))))), (9, 1, (.s (.i (.o (.i (.o .h))))))], 0, true⟩,
    ⟨(some (.i (.i .h))), none, .alloc [(.int .i64 0), (.str []), (.str []), .nils, (.str []), .nils, .nils, .nils, .nils, .nils, .nils, .nils, (.int .i64 0), .nils, .nils, (.int .i64 0), (.str []), (.int .i64 0), (.int .i64 0), (.str []), (.int .i64 0)], 0, true⟩,
    ⟨none, none, .store 21 (.s (.i (.i .h))) (.s (.o (.i (.i (.o .h))))), 0, true⟩] 0)
   (.seq (.seq (.reg [⟨(some (.i (.i (.i (.o .h))))), none, .mov (.s .h), 0, true⟩] 0)
   (.cond (.s (.i (.i (.i (.o .h)))))
   (.reg [⟨(some (.o (.o (.o (.i .h))))), none, .lea 9 (.s (.i (.i .h))), 0, true⟩,
    ⟨(some (.i (.o (.o (.i .h))))), none, .load false 1 (.s (.o (.o (.o (.i .h))))), 0, true⟩,
    ⟨(some (.o (.i (.o (.i .h))))), none, .ixS 2 (.s (.i (.o (.o (.i .h))))) (.c (.int .i64 0)), 0, true⟩,
    ⟨(some (.i (.i (.o (.i .h))))), none, .lea 0 (.s (.o (.i (.o (.i .h))))), 0, true⟩,
    ⟨none, none, .store 1 (.s (.i (.i (.o (.i .h))))) (.c (.int .i64 23)), 0, true⟩] 0)
   .skip))
   (.seq (.reg [⟨(some (.o (.o (.i (.i .h))))), none, .load true 15 (.s (.o (.i .h))), 0, true⟩,
    ⟨(some (.i (.o (.i (.i .h))))), none, .load true 21 (.s (.i (.i .h))), 0, true⟩,
    ⟨(some (.o (.i (.i (.i .h))))), none, .call (.i (.i (.o .h))) [(.s (.o (.o (.i (.i .h))))), (.s (.i (.o (.i (.i .h))))), (.c (.bool false)), (.c (.int .i64 0))], 0, true⟩,
    ⟨(some (.o (.o (.o .h)))), none, .alloc [(.int .i64 0), (.int .i64 0), (.str []), (.bool false), (.bool false), (.int .i64 0)], 0, true⟩,
    ⟨none, none, .store 6 (.s (.o (.o (.o .h)))) (.s (.o (.i (.i (.i .h))))), 0, true⟩] 0)
   (.seq (.seq (.reg [⟨(some (.i (.i (.i (.i .h))))), none, .lea 3 (.s (.o (.o (.o .h)))), 0, true⟩,
    ⟨(some (.o (.o (.o (.o (.o .h)))))), none, .load false 1 (.s (.i (.i (.i (.i .h))))), 0, true⟩,
    ⟨(some (.i (.o (.o (.o (.o .h)))))), none, .mov (.s .h), 0, true⟩,
    ⟨(some (.o (.i (.o (.o (.o .h)))))), none, .eqb false (.s (.o (.o (.o (.o (.o .h)))))) (.s (.i (.o (.o (.o (.o .h)))))), 0, true⟩,
    ⟨(some (.i (.i (.o (.o (.o .h)))))), none, .mov (.s (.o (.i (.o (.o (.o .h)))))), 0, true⟩,
    ⟨(some (.o (.o (.i (.o (.o .h)))))), (some ((.i (.i (.o (.o (.o .h))))), false)), .lea 1 (.s (.o (.o (.o .h)))), 0, true⟩,
    ⟨(some (.i (.o (.i (.o (.o .h)))))), (some ((.i (.i (.o (.o (.o .h))))), false)), .load false 1 (.s (.o (.o (.i (.o (.o .h)))))), 0, true⟩,
    ⟨(some (.o (.i (.i (.o (.o .h)))))), (some ((.i (.i (.o (.o (.o .h))))), false)), .bin .neq (.s (.i (.o (.i (.o (.o .h)))))) (.c (.int .i64 23)), 0, true⟩,
    ⟨(some (.i (.i (.i (.o (.o .h)))))), none, .pick (.s (.i (.i (.o (.o (.o .h)))))) (.c (.bool true)) (.s (.o (.i (.i (.o (.o .h)))))), 0, true⟩,
    ⟨(some (.o (.o (.o (.i (.o .h)))))), none, .mov (.s (.i (.i (.i (.o (.o .h)))))), 0, true⟩,
    ⟨(some (.i (.o (.o (.i (.o .h)))))), (some ((.o (.o (.o (.i (.o .h))))), false)), .lea 0 (.s (.o (.o (.o .h)))), 0, true⟩,
    ⟨(some (.o (.i (.o (.i (.o .h)))))), (some ((.o (.o (.o (.i (.o .h))))), false)), .load false 1 (.s (.i (.o (.o (.i (.o .h)))))), 0, true⟩,
    ⟨(some (.i (.i (.o (.i (.o .h)))))), (some ((.o (.o (.o (.i (.o .h))))), false)), .bin .neq (.s (.o (.i (.o (.i (.o .h)))))) (.c (.int .i64 4867)), 0, true⟩,
    ⟨(some (.o (.o (.i (.i (.o .h)))))), none, .pick (.s (.o (.o (.o (.i (.o .h)))))) (.c (.bool true)) (.s (.i (.i (.o (.i (.o .h)))))), 0, true⟩,
    ⟨(some (.i (.o (.i (.i (.o .h)))))), none, .mov (.s (.o (.o (.i (.i (.o .h)))))), 0, true⟩,
    ⟨(some (.o (.i (.i (.i (.o .h)))))), (some ((.i (.o (.i (.i (.o .h))))), false)), .lea 5 (.s (.o (.o (.o .h)))), 0, true⟩,
    ⟨(some (.i (.i (.i (.i (.o .h)))))), (some ((.i (.o (.i (.i (.o .h))))), false)), .load false 1 (.s (.o (.i (.i (.i (.o .h)))))), 0, true⟩,
    ⟨(some (.o (.o (.o (.o (.i .h)))))), (some ((.i (.o (.i (.i (.o .h))))), false)), .bin .neq (.s (.i (.i (.i (.i (.o .h)))))) (.c (.int .i64 (-1))), 0, true⟩,
    ⟨(some (.i (.o (.o (.o (.i .h)))))), none, .pick (.s (.i (.o (.i (.i (.o .h)))))) (.c (.bool true)) (.s (.o (.o (.o (.o (.i .h)))))), 0, true⟩,
    ⟨(some (.o (.i (.o (.o (.i .h)))))), none, .mov (.s (.i (.o (.o (.o (.i .h)))))), 0, true⟩,
    ⟨(some (.i (.i (.o (.o (.i .h)))))), (some ((.o (.i (.o (.o (.i .h))))), false)), .lea 2 (.s (.o (.o (.o .h)))), 0, true⟩,
    ⟨(some (.o (.o (.i (.o (.i .h)))))), (some ((.o (.i (.o (.o (.i .h))))), false)), .load false 1 (.s (.i (.i (.o (.o (.i .h)))))), 0, true⟩,
    ⟨(some (.i (.o (.i (.o (.i .h)))))), (some ((.o (.i (.o (.o (.i .h))))), false)), .bin .eql (.s (.o (.o (.i (.o (.i .h)))))) (.c (.str [107])), 0, true⟩,
    ⟨(some (.o (.i (.i (.o (.i .h)))))), (some ((.o (.i (.o (.o (.i .h))))), false)), .mov (.s .h), 0, true⟩,
    ⟨(some (.i (.i (.i (.o (.i .h)))))), (some ((.o (.i (.o (.o (.i .h))))), false)), .eqb true (.s (.i (.o (.i (.o (.i .h)))))) (.s (.o (.i (.i (.o (.i .h)))))), 0, true⟩,
    ⟨(some (.o (.o (.o (.i (.i .h)))))), none, .pick (.s (.o (.i (.o (.o (.i .h)))))) (.c (.bool true)) (.s (.i (.i (.i (.o (.i .h)))))), 0, true⟩] 0)
   (.cond (.s (.o (.o (.o (.i (.i .h))))))
   (.seq (.reg [⟨(some (.i (.o .h))), none, .mov (.c (.bool false)), 0, true⟩] 0)
   .ret)
   .skip))
   (.seq (.reg [⟨(some (.i (.o (.o (.i (.i .h)))))), none, .load true 21 (.s (.i (.i .h))), 0, true⟩,
    ⟨(some (.i (.o (.o .h)))), none, .alloc [(.int .i64 0), (.str []), (.str []), .nils, (.str []), .nils, .nils, .nils, .nils, .nils, .nils, .nils, (.int .i64 0), .nils, .nils, (.int .i64 0), (.str []), (.int .i64 0), (.int .i64 0), (.str []), (.int .i64 0)], 0, true⟩,
    ⟨none, none, .store 21 (.s (.i (.o (.o .h)))) (.s (.i (.o (.o (.i (.i .h)))))), 0, true⟩] 0)
   (.seq (.reg [⟨(some (.o (.i (.o .h)))), none, .mov (.c (.bool false)), 0, true⟩] 0)
   (.seq (.seq (.reg [⟨(some (.o (.i (.o (.i (.i .h)))))), none, .mov (.s (.o .h)), 0, true⟩,
    ⟨(some (.i (.i (.o (.i (.i .h)))))), none, .conv .u64 (.s (.o (.i (.o (.i (.i .h)))))), 0, true⟩,
    ⟨(some (.o (.o (.i (.i (.i .h)))))), none, .bin .rem (.s (.i (.i (.o (.i (.i .h)))))) (.c (.int .u64 4)), 0, true⟩] 0)
   (.block 0 (.seq (.reg [⟨(some (.i (.i (.o (.o (.o (.o .h))))))), none, .bin .eql (.s (.o (.o (.i (.i (.i .h)))))) (.c (.int .u64 0)), 0, true⟩,
    ⟨(some (.o (.i (.o (.o (.o (.o .h))))))), none, .mov (.s (.i (.i (.o (.o (.o (.o .h))))))), 0, true⟩] 0)
   (.cond (.s (.o (.i (.o (.o (.o (.o .h)))))))
   (.seq (.reg [⟨(some (.o (.o (.i (.o (.o (.o .h))))))), none, .build [(.int .i64 0), (.str [])] [(0, 1, (.c (.int .i64 23))), (1, 1, (.c (.str [112])))], 0, true⟩,
    ⟨(some (.i (.o (.i (.o (.o (.o .h))))))), none, .bsl 2 1 [(.int .i64 0), (.str [])] [(0, 2, (.s (.o (.o (.i (.o (.o (.o .h))))))))], 0, true⟩,
    ⟨(some (.o (.i (.i (.o (.o (.o .h))))))), none, .lea 9 (.s (.i (.o (.o .h)))), 0, true⟩,
    ⟨none, none, .store 1 (.s (.o (.i (.i (.o (.o (.o .h))))))) (.s (.i (.o (.i (.o (.o (.o .h))))))), 0, true⟩] 0)
   (.reg [⟨(some (.o (.i (.o .h)))), none, .mov (.c (.bool true)), 0, true⟩] 0))
   (.seq (.reg [⟨(some (.o (.o (.o (.i (.o (.o .h))))))), none, .bin .eql (.s (.o (.o (.i (.i (.i .h)))))) (.c (.int .u64 1)), 0, true⟩,
    ⟨(some (.i (.i (.i (.o (.o (.o .h))))))), none, .mov (.s (.o (.o (.o (.i (.o (.o .h))))))), 0, true⟩] 0)
   (.cond (.s (.i (.i (.i (.o (.o (.o .h)))))))
   (.reg [⟨(some (.i (.o (.o (.i (.o (.o .h))))))), none, .build [(.int .i64 0), (.str [])] [(0, 1, (.c (.int .i64 29))), (1, 1, (.c (.str [112])))], 0, true⟩,
    ⟨(some (.o (.i (.o (.i (.o (.o .h))))))), none, .bsl 2 1 [(.int .i64 0), (.str [])] [(0, 2, (.s (.i (.o (.o (.i (.o (.o .h))))))))], 0, true⟩,
    ⟨(some (.i (.i (.o (.i (.o (.o .h))))))), none, .lea 9 (.s (.i (.o (.o .h)))), 0, true⟩,
    ⟨none, none, .store 1 (.s (.i (.i (.o (.i (.o (.o .h))))))) (.s (.o (.i (.o (.i (.o (.o .h))))))), 0, true⟩] 0)
   (.seq (.reg [⟨(some (.i (.o (.i (.i (.o (.o .h))))))), none, .bin .eql (.s (.o (.o (.i (.i (.i .h)))))) (.c (.int .u64 2)), 0, true⟩,
    ⟨(some (.o (.o (.i (.i (.o (.o .h))))))), none, .mov (.s (.i (.o (.i (.i (.o (.o .h))))))), 0, true⟩] 0)
   (.cond (.s (.o (.o (.i (.i (.o (.o .h)))))))
   (.reg [⟨(some (.o (.i (.i (.i (.o (.o .h))))))), none, .build [(.int .i64 0), (.str [])] [(0, 1, (.c (.int .i64 23))), (1, 1, (.c (.str [112])))], 0, true⟩,
    ⟨(some (.i (.i (.i (.i (.o (.o .h))))))), none, .build [(.int .i64 0), (.str [])] [(0, 1, (.c (.int .i64 29))), (1, 1, (.c (.str [113])))], 0, true⟩,
    ⟨(some (.o (.o (.o (.o (.i (.o .h))))))), none, .bsl 2 2 [(.int .i64 0), (.str []), (.int .i64 0), (.str [])] [(0, 2, (.s (.o (.i (.i (.i (.o (.o .h)))))))), (2, 2, (.s (.i (.i (.i (.i (.o (.o .h))))))))], 0, true⟩,
    ⟨(some (.i (.o (.o (.o (.i (.o .h))))))), none, .lea 9 (.s (.i (.o (.o .h)))), 0, true⟩,
    ⟨none, none, .store 1 (.s (.i (.o (.o (.o (.i (.o .h))))))) (.s (.o (.o (.o (.o (.i (.o .h))))))), 0, true⟩] 0)
   (.seq (.reg [⟨(some (.i (.o (.i (.i (.i .h)))))), none, .bsl 1 1 [(.int .i64 0)] [(0, 1, (.c (.int .i64 29)))], 0, true⟩,
    ⟨(some (.o (.i (.i (.i (.i .h)))))), none, .lea 6 (.s (.i (.o (.o .h)))), 0, true⟩,
    ⟨none, none, .store 1 (.s (.o (.i (.i (.i (.i .h)))))) (.s (.i (.o (.i (.i (.i .h)))))), 0, true⟩] 0)
   (.reg [⟨(some (.i (.i (.i (.i (.i .h)))))), none, .build [(.int .i64 0), (.str [])] [(0, 1, (.c (.int .i64 23))), (1, 1, (.c (.str [112])))], 0, true⟩,
    ⟨(some (.o (.o (.o (.o (.o (.o .h))))))), none, .bsl 2 1 [(.int .i64 0), (.str [])] [(0, 2, (.s (.i (.i (.i (.i (.i .h)))))))], 0, true⟩,
    ⟨(some (.i (.o (.o (.o (.o (.o .h))))))), none, .lea 9 (.s (.i (.o (.o .h)))), 0, true⟩,
    ⟨none, none, .store 1 (.s (.i (.o (.o (.o (.o (.o .h))))))) (.s (.o (.o (.o (.o (.o (.o .h))))))), 0, true⟩] 0))))))))))
   (.seq (.reg [⟨(some (.o (.i (.o (.o (.i (.o .h))))))), none, .load true 15 (.s (.o (.i .h))), 0, true⟩,
    ⟨(some (.i (.i (.o (.o (.i (.o .h))))))), none, .load true 21 (.s (.i (.o (.o .h)))), 0, true⟩,
    ⟨(some (.o (.o (.i (.o (.i (.o .h))))))), none, .call (.i (.i (.o .h))) [(.s (.o (.i (.o (.o (.i (.o .h))))))), (.s (.i (.i (.o (.o (.i (.o .h))))))), (.c (.bool true)), (.c (.int .i64 23))], 0, true⟩,
    ⟨(some (.i (.i (.o .h)))), none, .alloc [(.int .i64 0), (.int .i64 0), (.str []), (.bool false), (.bool false), (.int .i64 0)], 0, true⟩,
    ⟨none, none, .store 6 (.s (.i (.i (.o .h)))) (.s (.o (.o (.i (.o (.i (.o .h))))))), 0, true⟩] 0)
   (.seq (.seq (.reg [⟨(some (.i (.o (.i (.o (.i (.o .h))))))), none, .mov (.s (.o (.i (.o .h)))), 0, true⟩] 0)
   (.cond (.s (.i (.o (.i (.o (.i (.o .h)))))))
   (.seq (.reg [⟨(some (.o (.i (.i (.o (.i (.o .h))))))), none, .load true 6 (.s (.i (.i (.o .h)))), 0, true⟩,
    ⟨(some (.i (.i (.i (.o (.i (.o .h))))))), none, .build [(.int .i64 0), (.int .i64 0), (.str []), (.bool false), (.bool false), (.int .i64 0)] [(0, 1, (.c (.int .i64 4867))), (1, 1, (.c (.int .i64 23))), (2, 1, (.c (.str [112]))), (5, 1, (.c (.int .i64 (-1))))], 0, true⟩,
    ⟨(some (.o (.o (.o (.i (.i (.o .h))))))), none, .eqs false [.i, .i, .s, .b, .b, .i] (.s (.o (.i (.i (.o (.i (.o .h))))))) (.s (.i (.i (.i (.o (.i (.o .h))))))), 0, true⟩,
    ⟨(some (.i (.o .h))), none, .mov (.s (.o (.o (.o (.i (.i (.o .h))))))), 0, true⟩] 0)
   .ret)
   .skip))
   (.seq (.reg [⟨(some (.i (.o (.o (.i (.i (.o .h))))))), none, .load true 6 (.s (.i (.i (.o .h)))), 0, true⟩,
    ⟨(some (.o (.i (.o (.i (.i (.o .h))))))), none, .build [(.int .i64 0), (.int .i64 0), (.str []), (.bool false), (.bool false), (.int .i64 0)] [(5, 1, (.c (.int .i64 47)))], 0, true⟩,
    ⟨(some (.i (.i (.o (.i (.i (.o .h))))))), none, .eqs false [.i, .i, .s, .b, .b, .i] (.s (.i (.o (.o (.i (.i (.o .h))))))) (.s (.o (.i (.o (.i (.i (.o .h))))))), 0, true⟩,
    ⟨(some (.i (.o .h))), none, .mov (.s (.i (.i (.o (.i (.i (.o .h))))))), 0, true⟩] 0)
   .ret))))))))))))) }

/-- halberd/halberdlaw24.HelloPsks -/
noncomputable def d8 : Go.AE.Fd := { np := 3, res := [.tmp (.i (.i .h))], code :=
   (.seq (.reg [⟨(some (.i (.i .h))), none, .mov (.c (.bool false)), 0, true⟩] 0)
   (.seq (.seq (.reg [⟨(some (.o (.o (.o (.o .h))))), none, .call (.o (.i (.o .h))) [], 0, true⟩,
    ⟨(some (.i (.o (.o (.o .h))))), none, .un .not (.s (.o (.o (.o (.o .h))))), 0, true⟩] 0)
   (.cond (.s (.i (.o (.o (.o .h)))))
   (.seq (.reg [⟨(some (.i (.i .h))), none, .mov (.c (.bool false)), 0, true⟩] 0)
   .ret)
   .skip))
   (.seq (.reg [⟨(some (.o (.i (.o (.o .h))))), none, .call (.i (.i (.i .h))) [], 0, true⟩,
    ⟨(some (.o (.o (.o .h)))), none, .alloc [(.bool false), .nils, .nils, .nils, (.str []), .nils, (.str []), (.int .i64 0), (.str []), .nils, (.str []), (.int .i64 0), (.int .i64 0), (.int .i64 0), (.int .i64 0)], 0, true⟩,
    ⟨none, none, .store 15 (.s (.o (.o (.o .h)))) (.s (.o (.i (.o (.o .h))))), 0, true⟩] 0)
   (.seq (.reg [⟨(some (.i (.i (.o (.o .h))))), none, .call (.o (.o (.o (.o .h)))) [(.c (.int .i64 32))], 0, true⟩,
    ⟨(some (.o (.o (.i (.o .h))))), none, .lea 8 (.s (.o (.o (.o .h)))), 0, true⟩,
    ⟨none, none, .store 1 (.s (.o (.o (.i (.o .h))))) (.s (.i (.i (.o (.o .h))))), 0, true⟩] 0)
   (.seq (.reg [⟨(some (.i (.o (.i (.o .h))))), none, .lea 11 (.s (.o (.o (.o .h)))), 0, true⟩,
    ⟨none, none, .store 1 (.s (.i (.o (.i (.o .h))))) (.c (.int .i64 700000)), 0, true⟩] 0)
   (.seq (.reg [⟨(some (.o (.i (.i (.o .h))))), none, .call (.o (.o (.o (.o .h)))) [(.c (.int .i64 32))], 0, true⟩,
    ⟨(some (.i (.i (.i (.o .h))))), none, .bsl 1 1 [(.int .i64 0)] [(0, 1, (.c (.int .i64 4865)))], 0, true⟩,
    ⟨(some (.o (.o (.o (.i .h))))), none, .bsl 1 1 [(.int .i64 0)] [(0, 1, (.c (.int .i64 772)))], 0, true⟩,
    ⟨(some (.i (.o (.o (.i .h))))), none, .bsl 1 1 [(.int .i64 0)] [(0, 1, (.c (.int .i64 29)))], 0, true⟩,
    ⟨(some (.o (.i (.o (.i .h))))), none, .build [(.int .i64 0), (.str [])] [(0, 1, (.c (.int .i64 29))), (1, 1, (.c (.str [107])))], 0, true⟩,
    ⟨(some (.i (.i (.o (.i .h))))), none, .bsl 2 1 [(.int .i64 0), (.str [])] [(0, 2, (.s (.o (.i (.o (.i .h))))))], 0, true⟩,
    ⟨(some (.o (.o (.i (.i .h))))), none, .bsl 1 2 [(.int .i64 0), (.int .i64 0)] [(0, 1, (.c (.int .i64 0))), (1, 1, (.c (.int .i64 1)))], 0, true⟩,
    ⟨(some (.i (.o (.i (.i .h))))), none, .call (.o (.o (.o (.o .h)))) [(.c (.int .i64 32))], 0, true⟩,
    ⟨(some (.o (.i (.i (.i .h))))), none, .bsl 1 1 [(.str [])] [(0, 1, (.s (.i (.o (.i (.i .h))))))], 0, true⟩,
    ⟨(some (.i (.i (.i (.i .h))))), none, .build [(.int .i64 0), (.str []), (.str []), .nils, (.str []), .nils, .nils, .nils, .nils, .nils, .nils, .nils, (.int .i64 0), .nils, .nils, (.int .i64 0), (.str []), (.int .i64 0), (.int .i64 0), (.str []), (.int .i64 0)] [(0, 1, (.c (.int .i64 1))), (1, 1, (.s (.o (.i (.i (.o .h)))))), (3, 1, (.s (.i (.i (.i (.o .h)))))), (5, 1, (.s (.o (.o (.o (.i .h)))))), (6, 1, (.s (.i (.o (.o (.i .h)))))), (9, 1, (.s (.i (.i (.o (.i .h)))))), (8, 1, (.s (.o (.o (.i (.i .h)))))), (11, 1, (.s (.o (.i (.i (.i .h))))))], 0, true⟩,
    ⟨(some (.i (.o (.o .h)))), none, .alloc [(.int .i64 0), (.str []), (.str []), .nils, (.str []), .nils, .nils, .nils, .nils, .nils, .nils, .nils, (.int .i64 0), .nils, .nils, (.int .i64 0), (.str []), (.int .i64 0), (.int .i64 0), (.str []), (.int .i64 0)], 0, true⟩,
    ⟨none, none, .store 21 (.s (.i (.o (.o .h)))) (.s (.i (.i (.i (.i .h))))), 0, true⟩] 0)
   (.seq (.reg [⟨(some (.o (.o (.o (.o (.o .h)))))), none, .call (.o (.o (.o (.o .h)))) [(.c (.int .i64 32))], 0, true⟩,
    ⟨(some (.i (.o (.o (.o (.o .h)))))), none, .build [(.int .i64 0), (.str []), (.int .i64 0), (.int .i64 0)] [(0, 1, (.c (.int .i64 4865))), (1, 1, (.s (.o (.o (.o (.o (.o .h))))))), (2, 1, (.c (.int .i64 690000)))], 0, true⟩,
    ⟨(some (.o (.i (.o .h)))), none, .alloc [(.int .i64 0), (.str []), (.int .i64 0), (.int .i64 0)], 0, true⟩,
    ⟨none, none, .store 4 (.s (.o (.i (.o .h)))) (.s (.i (.o (.o (.o (.o .h)))))), 0, true⟩] 0)
   (.seq (.reg [⟨(some (.i (.i (.o .h)))), none, .mov (.c (.bool true)), 0, true⟩] 0)
   (.seq (.reg [⟨(some (.o (.o (.i .h)))), none, .mov (.c (.int .i64 109)), 0, true⟩] 0)
   (.seq (.seq (.reg [⟨(some (.o (.i (.o (.o (.o .h)))))), none, .mov (.s .h), 0, true⟩,
    ⟨(some (.i (.i (.o (.o (.o .h)))))), none, .conv .u64 (.s (.o (.i (.o (.o (.o .h)))))), 0, true⟩,
    ⟨(some (.o (.o (.i (.o (.o .h)))))), none, .bin .rem (.s (.i (.i (.o (.o (.o .h)))))) (.c (.int .u64 6)), 0, true⟩] 0)
   (.block 0 (.seq (.reg [⟨(some (.o (.i (.i (.o (.o .h)))))), none, .bin .eql (.s (.o (.o (.i (.o (.o .h)))))) (.c (.int .u64 1)), 0, true⟩,
    ⟨(some (.i (.o (.i (.o (.o .h)))))), none, .mov (.s (.o (.i (.i (.o (.o .h)))))), 0, true⟩] 0)
   (.cond (.s (.i (.o (.i (.o (.o .h))))))
   (.seq (.reg [⟨(some (.i (.i (.i (.o (.o .h)))))), none, .mov (.s (.o .h)), 0, true⟩,
    ⟨(some (.o (.o (.o (.i (.o .h)))))), none, .bin .and (.s (.i (.i (.i (.o (.o .h)))))) (.c (.int .i64 1048575)), 0, true⟩,
    ⟨(some (.i (.o (.o (.i (.o .h)))))), none, .lea 2 (.s (.o (.i (.o .h)))), 0, true⟩,
    ⟨none, none, .store 1 (.s (.i (.o (.o (.i (.o .h)))))) (.s (.o (.o (.o (.i (.o .h)))))), 0, true⟩] 0)
   (.reg [⟨(some (.o (.i (.o (.i (.o .h)))))), none, .lea 2 (.s (.o (.i (.o .h)))), 0, true⟩,
    ⟨(some (.i (.i (.o (.i (.o .h)))))), none, .load false 1 (.s (.o (.i (.o (.i (.o .h)))))), 0, true⟩,
    ⟨(some (.o (.o (.i (.i (.o .h)))))), none, .bin .leq (.s (.i (.i (.o (.i (.o .h)))))) (.c (.int .i64 700000)), 0, true⟩,
    ⟨(some (.i (.o (.i (.i (.o .h)))))), none, .mov (.s (.o (.o (.i (.i (.o .h)))))), 0, true⟩,
    ⟨(some (.o (.i (.i (.i (.o .h)))))), (some ((.i (.o (.i (.i (.o .h))))), true)), .lea 2 (.s (.o (.i (.o .h)))), 0, true⟩,
    ⟨(some (.i (.i (.i (.i (.o .h)))))), (some ((.i (.o (.i (.i (.o .h))))), true)), .load false 1 (.s (.o (.i (.i (.i (.o .h)))))), 0, true⟩,
    ⟨(some (.o (.o (.o (.o (.i .h)))))), (some ((.i (.o (.i (.i (.o .h))))), true)), .bin .sub (.c (.int .i64 700000)) (.s (.i (.i (.i (.i (.o .h)))))), 0, true⟩,
    ⟨(some (.i (.o (.o (.o (.i .h)))))), (some ((.i (.o (.i (.i (.o .h))))), true)), .bin .leq (.s (.o (.o (.o (.o (.i .h)))))) (.c (.int .i64 604800)), 0, true⟩,
    ⟨(some (.o (.i (.o (.o (.i .h)))))), none, .pick (.s (.i (.o (.i (.i (.o .h)))))) (.s (.i (.o (.o (.o (.i .h)))))) (.c (.bool false)), 0, true⟩,
    ⟨(some (.i (.i (.o .h)))), none, .mov (.s (.o (.i (.o (.o (.i .h)))))), 0, true⟩] 0))
   (.seq (.reg [⟨(some (.o (.o (.i (.o (.i .h)))))), none, .bin .eql (.s (.o (.o (.i (.o (.o .h)))))) (.c (.int .u64 2)), 0, true⟩,
    ⟨(some (.i (.i (.o (.o (.i .h)))))), none, .mov (.s (.o (.o (.i (.o (.i .h)))))), 0, true⟩] 0)
   (.cond (.s (.i (.i (.o (.o (.i .h))))))
   (.seq (.reg [⟨(some (.i (.o (.i (.o (.i .h)))))), none, .lea 0 (.s (.o (.i (.o .h)))), 0, true⟩,
    ⟨none, none, .store 1 (.s (.i (.o (.i (.o (.i .h)))))) (.c (.int .i64 4867)), 0, true⟩] 0)
   (.reg [⟨(some (.i (.i (.o .h)))), none, .mov (.c (.bool false)), 0, true⟩] 0))
   (.seq (.reg [⟨(some (.i (.i (.i (.o (.i .h)))))), none, .bin .eql (.s (.o (.o (.i (.o (.o .h)))))) (.c (.int .u64 3)), 0, true⟩,
    ⟨(some (.o (.i (.i (.o (.i .h)))))), none, .mov (.s (.i (.i (.i (.o (.i .h)))))), 0, true⟩] 0)
   (.cond (.s (.o (.i (.i (.o (.i .h))))))
   (.seq (.reg [⟨(some (.o (.o (.o (.i (.i .h)))))), none, .bsl 1 1 [(.int .i64 0)] [(0, 1, (.c (.int .i64 0)))], 0, true⟩,
    ⟨(some (.i (.o (.o (.i (.i .h)))))), none, .lea 8 (.s (.i (.o (.o .h)))), 0, true⟩,
    ⟨none, none, .store 1 (.s (.i (.o (.o (.i (.i .h)))))) (.s (.o (.o (.o (.i (.i .h)))))), 0, true⟩] 0)
   (.reg [⟨(some (.i (.i (.o .h)))), none, .mov (.c (.bool false)), 0, true⟩] 0))
   (.seq (.reg [⟨(some (.i (.i (.o (.i (.i .h)))))), none, .bin .eql (.s (.o (.o (.i (.o (.o .h)))))) (.c (.int .u64 4)), 0, true⟩,
    ⟨(some (.o (.i (.o (.i (.i .h)))))), none, .mov (.s (.i (.i (.o (.i (.i .h)))))), 0, true⟩] 0)
   (.cond (.s (.o (.i (.o (.i (.i .h))))))
   (.seq (.reg [⟨(some (.o (.o (.i (.i (.i .h)))))), none, .lea 8 (.s (.i (.o (.o .h)))), 0, true⟩,
    ⟨none, none, .store 1 (.s (.o (.o (.i (.i (.i .h)))))) (.c .nils), 0, true⟩] 0)
   (.reg [⟨(some (.i (.i (.o .h)))), none, .mov (.c (.bool false)), 0, true⟩] 0))
   (.seq (.reg [⟨(some (.o (.i (.i (.i (.i .h)))))), none, .bin .eql (.s (.o (.o (.i (.o (.o .h)))))) (.c (.int .u64 5)), 0, true⟩,
    ⟨(some (.i (.o (.i (.i (.i .h)))))), none, .mov (.s (.o (.i (.i (.i (.i .h)))))), 0, true⟩] 0)
   (.cond (.s (.i (.o (.i (.i (.i .h))))))
   (.seq (.reg [⟨(some (.i (.i (.i (.i (.i .h)))))), none, .bsl 1 1 [(.int .i64 0)] [(0, 1, (.c (.int .i64 1027)))], 0, true⟩,
    ⟨(some (.o (.o (.o (.o (.o (.o .h))))))), none, .lea 7 (.s (.i (.o (.o .h)))), 0, true⟩,
    ⟨none, none, .store 1 (.s (.o (.o (.o (.o (.o (.o .h))))))) (.s (.i (.i (.i (.i (.i .h)))))), 0, true⟩] 0)
   (.seq (.reg [⟨(some (.i (.o (.o (.o (.o (.o .h))))))), none, .lea 8 (.s (.o (.o (.o .h)))), 0, true⟩,
    ⟨none, none, .store 1 (.s (.i (.o (.o (.o (.o (.o .h))))))) (.c (.str [])), 0, true⟩] 0)
   (.seq (.reg [⟨(some (.i (.i (.o .h)))), none, .mov (.c (.bool false)), 0, true⟩] 0)
   (.reg [⟨(some (.o (.o (.i .h)))), none, .mov (.c (.int .i64 (-1))), 0, true⟩] 0))))
   .skip))))))))))))
   (.seq (.reg [⟨(some (.i (.i (.o (.o (.o (.o .h))))))), none, .call (.o (.o (.o (.o .h)))) [(.c (.int .i64 32))], 0, false⟩,
    ⟨(some (.o (.o (.i (.o (.o (.o .h))))))), none, .call (.o (.o (.o (.o .h)))) [(.c (.int .i64 11))], 0, false⟩,
    ⟨(some (.i (.o (.i (.o (.o (.o .h))))))), none, .bin .add (.c (.str [110])) (.s (.o (.o (.i (.o (.o (.o .h))))))), 0, false⟩,
    ⟨(some (.o (.i (.i (.o (.o (.o .h))))))), none, .load true 4 (.s (.o (.i (.o .h)))), 0, false⟩,
    ⟨(some (.i (.i (.i (.o (.o (.o .h))))))), none, .call (.i (.o (.i (.o .h)))) [(.s (.i (.i (.o (.o (.o (.o .h))))))), (.s (.i (.o (.i (.o (.o (.o .h))))))), (.s (.o (.i (.i (.o (.o (.o .h)))))))], 0, false⟩,
    ⟨(some (.o (.i (.o (.o (.o (.o .h))))))), none, .mov (.s (.i (.i (.i (.o (.o (.o .h))))))), 0, false⟩,
    ⟨(some (.o (.o (.o (.i (.o (.o .h))))))), none, .ext 0 (.s (.o (.i (.o (.o (.o (.o .h))))))), 0, false⟩,
    ⟨(some (.i (.o (.o (.i (.o (.o .h))))))), none, .ext 1 (.s (.o (.i (.o (.o (.o (.o .h))))))), 0, false⟩,
    ⟨(some (.i (.o (.i .h)))), none, .mov (.s (.o (.o (.o (.i (.o (.o .h))))))), 0, false⟩,
    ⟨(some (.o (.i (.i .h)))), none, .mov (.s (.i (.o (.o (.i (.o (.o .h))))))), 0, false⟩] 0)
   (.seq (.reg [⟨(some (.o (.i (.o (.i (.o (.o .h))))))), none, .mov (.s (.i (.o (.i .h)))), 0, true⟩,
    ⟨(some (.i (.i (.o (.i (.o (.o .h))))))), none, .mov (.s (.i .h)), 0, true⟩,
    ⟨(some (.o (.o (.i (.i (.o (.o .h))))))), none, .lenS (.s (.i (.i (.o (.i (.o (.o .h))))))), 0, true⟩,
    ⟨(some (.i (.o (.i (.i (.o (.o .h))))))), none, .build [(.str []), (.int .i64 0)] [(0, 1, (.s (.o (.i (.o (.i (.o (.o .h)))))))), (1, 1, (.s (.o (.o (.i (.i (.o (.o .h))))))))], 0, true⟩,
    ⟨(some (.o (.i (.i (.i (.o (.o .h))))))), none, .bsl 2 1 [(.str []), (.int .i64 0)] [(0, 2, (.s (.i (.o (.i (.i (.o (.o .h))))))))], 0, true⟩,
    ⟨(some (.i (.i (.i (.i (.o (.o .h))))))), none, .lea 10 (.s (.i (.o (.o .h)))), 0, true⟩,
    ⟨none, none, .store 1 (.s (.i (.i (.i (.i (.o (.o .h))))))) (.s (.o (.i (.i (.i (.o (.o .h))))))), 0, true⟩] 0)
   (.seq (.reg [⟨(some (.o (.o (.o (.o (.i (.o .h))))))), none, .load true 15 (.s (.o (.o (.o .h)))), 0, true⟩,
    ⟨(some (.i (.o (.o (.o (.i (.o .h))))))), none, .load true 21 (.s (.i (.o (.o .h)))), 0, true⟩,
    ⟨(some (.o (.i (.o (.o (.i (.o .h))))))), none, .call (.i (.i (.o .h))) [(.s (.o (.o (.o (.o (.i (.o .h))))))), (.s (.i (.o (.o (.o (.i (.o .h))))))), (.c (.bool false)), (.c (.int .i64 0))], 0, true⟩,
    ⟨(some (.i (.i (.i .h)))), none, .alloc [(.int .i64 0), (.int .i64 0), (.str []), (.bool false), (.bool false), (.int .i64 0)], 0, true⟩,
    ⟨none, none, .store 6 (.s (.i (.i (.i .h)))) (.s (.o (.i (.o (.o (.i (.o .h))))))), 0, true⟩] 0)
   (.seq (.seq (.reg [⟨(some (.i (.i (.o (.o (.i (.o .h))))))), none, .mov (.s (.i (.i (.o .h)))), 0, true⟩] 0)
   (.cond (.s (.i (.i (.o (.o (.i (.o .h)))))))
   (.seq (.reg [⟨(some (.o (.o (.i (.o (.i (.o .h))))))), none, .mov (.s (.o (.i (.i .h)))), 0, true⟩,
    ⟨(some (.i (.o (.i (.o (.i (.o .h))))))), none, .bin .eql (.s (.o (.o (.i (.o (.i (.o .h))))))) (.c (.int .i64 0)), 0, true⟩,
    ⟨(some (.o (.i (.i (.o (.i (.o .h))))))), none, .mov (.s (.i (.o (.i (.o (.i (.o .h))))))), 0, true⟩,
    ⟨(some (.i (.i (.i (.o (.i (.o .h))))))), (some ((.o (.i (.i (.o (.i (.o .h)))))), true)), .load true 6 (.s (.i (.i (.i .h)))), 0, true⟩,
    ⟨(some (.o (.o (.o (.i (.i (.o .h))))))), (some ((.o (.i (.i (.o (.i (.o .h)))))), true)), .build [(.int .i64 0), (.int .i64 0), (.str []), (.bool false), (.bool false), (.int .i64 0)] [(0, 1, (.c (.int .i64 4865))), (1, 1, (.c (.int .i64 29))), (2, 1, (.c (.str [107]))), (4, 1, (.c (.bool true))), (5, 1, (.c (.int .i64 (-1))))], 0, true⟩,
    ⟨(some (.i (.o (.o (.i (.i (.o .h))))))), (some ((.o (.i (.i (.o (.i (.o .h)))))), true)), .eqs false [.i, .i, .s, .b, .b, .i] (.s (.i (.i (.i (.o (.i (.o .h))))))) (.s (.o (.o (.o (.i (.i (.o .h))))))), 0, true⟩,
    ⟨(some (.o (.i (.o (.i (.i (.o .h))))))), none, .pick (.s (.o (.i (.i (.o (.i (.o .h))))))) (.s (.i (.o (.o (.i (.i (.o .h))))))) (.c (.bool false)), 0, true⟩,
    ⟨(some (.i (.i .h))), none, .mov (.s (.o (.i (.o (.i (.i (.o .h))))))), 0, true⟩] 0)
   .ret)
   .skip))
   (.seq (.seq (.reg [⟨(some (.i (.i (.o (.i (.i (.o .h))))))), none, .mov (.s (.o (.o (.i .h)))), 0, true⟩,
    ⟨(some (.o (.o (.i (.i (.i (.o .h))))))), none, .bin .lss (.s (.i (.i (.o (.i (.i (.o .h))))))) (.c (.int .i64 0)), 0, true⟩] 0)
   (.cond (.s (.o (.o (.i (.i (.i (.o .h)))))))
   (.seq (.reg [⟨(some (.i (.o (.i (.i (.i (.o .h))))))), none, .mov (.s (.o (.i (.i .h)))), 0, true⟩,
    ⟨(some (.o (.i (.i (.i (.i (.o .h))))))), none, .bin .eql (.s (.i (.o (.i (.i (.i (.o .h))))))) (.c (.int .i64 0)), 0, true⟩,
    ⟨(some (.i (.i (.i (.i (.i (.o .h))))))), none, .mov (.s (.o (.i (.i (.i (.i (.o .h))))))), 0, true⟩,
    ⟨(some (.o (.o (.o (.o (.o (.i .h))))))), (some ((.i (.i (.i (.i (.i (.o .h)))))), true)), .load true 6 (.s (.i (.i (.i .h)))), 0, true⟩,
    ⟨(some (.i (.o (.o (.o (.o (.i .h))))))), (some ((.i (.i (.i (.i (.i (.o .h)))))), true)), .build [(.int .i64 0), (.int .i64 0), (.str []), (.bool false), (.bool false), (.int .i64 0)] [(0, 1, (.c (.int .i64 4865))), (1, 1, (.c (.int .i64 29))), (2, 1, (.c (.str [107]))), (5, 1, (.c (.int .i64 (-1))))], 0, true⟩,
    ⟨(some (.o (.i (.o (.o (.o (.i .h))))))), (some ((.i (.i (.i (.i (.i (.o .h)))))), true)), .eqs false [.i, .i, .s, .b, .b, .i] (.s (.o (.o (.o (.o (.o (.i .h))))))) (.s (.i (.o (.o (.o (.o (.i .h))))))), 0, true⟩,
    ⟨(some (.i (.i (.o (.o (.o (.i .h))))))), none, .pick (.s (.i (.i (.i (.i (.i (.o .h))))))) (.s (.o (.i (.o (.o (.o (.i .h))))))) (.c (.bool false)), 0, true⟩,
    ⟨(some (.i (.i .h))), none, .mov (.s (.i (.i (.o (.o (.o (.i .h))))))), 0, true⟩] 0)
   .ret)
   .skip))
   (.seq (.reg [⟨(some (.o (.o (.i (.o (.o (.i .h))))))), none, .mov (.s (.o (.i (.i .h)))), 0, true⟩,
    ⟨(some (.i (.o (.i (.o (.o (.i .h))))))), none, .bin .eql (.s (.o (.o (.i (.o (.o (.i .h))))))) (.c (.int .i64 0)), 0, true⟩,
    ⟨(some (.o (.i (.i (.o (.o (.i .h))))))), none, .mov (.s (.i (.o (.i (.o (.o (.i .h))))))), 0, true⟩,
    ⟨(some (.i (.i (.i (.o (.o (.i .h))))))), (some ((.o (.i (.i (.o (.o (.i .h)))))), true)), .load true 6 (.s (.i (.i (.i .h)))), 0, true⟩,
    ⟨(some (.o (.o (.o (.i (.o (.i .h))))))), (some ((.o (.i (.i (.o (.o (.i .h)))))), true)), .mov (.s (.o (.o (.i .h)))), 0, true⟩,
    ⟨(some (.i (.o (.o (.i (.o (.i .h))))))), (some ((.o (.i (.i (.o (.o (.i .h)))))), true)), .build [(.int .i64 0), (.int .i64 0), (.str []), (.bool false), (.bool false), (.int .i64 0)] [(5, 1, (.s (.o (.o (.o (.i (.o (.i .h))))))))], 0, true⟩,
    ⟨(some (.o (.i (.o (.i (.o (.i .h))))))), (some ((.o (.i (.i (.o (.o (.i .h)))))), true)), .eqs false [.i, .i, .s, .b, .b, .i] (.s (.i (.i (.i (.o (.o (.i .h))))))) (.s (.i (.o (.o (.i (.o (.i .h))))))), 0, true⟩,
    ⟨(some (.i (.i (.o (.i (.o (.i .h))))))), none, .pick (.s (.o (.i (.i (.o (.o (.i .h))))))) (.s (.o (.i (.o (.i (.o (.i .h))))))) (.c (.bool false)), 0, true⟩,
    ⟨(some (.i (.i .h))), none, .mov (.s (.i (.i (.o (.i (.o (.i .h))))))), 0, true⟩] 0)
   .ret)))))))))))))))) }

/-- halberd/halberdlaw24.has -/
noncomputable def d12 : Go.AE.Fd := { np := 2, res := [.tmp (.i (.o .h))], code :=
   (.seq (.reg [⟨(some (.i (.o .h))), none, .mov (.c (.bool false)), 0, true⟩] 0)
   (.seq (.seq (.reg [⟨(some (.o (.i .h))), none, .mov (.c (.int .i64 0)), 0, true⟩] 0)
   (.block 0 (.loop (.seq (.seq (.reg [⟨(some (.i (.i .h))), none, .mov (.s (.o (.i .h))), 0, true⟩,
    ⟨(some (.o (.o (.o .h)))), none, .mov (.s .h), 0, true⟩,
    ⟨(some (.i (.o (.o .h)))), none, .len (.s (.o (.o (.o .h)))), 0, true⟩,
    ⟨(some (.o (.i (.o .h)))), none, .bin .lss (.s (.i (.i .h))) (.s (.i (.o (.o .h)))), 0, true⟩] 0)
   (.cond (.s (.o (.i (.o .h))))
   .skip
   (.exit 0)))
   (.seq (.block 1 (.seq (.reg [⟨(some (.i (.o (.i .h)))), none, .mov (.s .h), 0, true⟩,
    ⟨(some (.o (.i (.i .h)))), none, .mov (.s (.o (.i .h))), 0, true⟩,
    ⟨(some (.i (.i (.i .h)))), none, .ixS 1 (.s (.i (.o (.i .h)))) (.s (.o (.i (.i .h)))), 0, true⟩,
    ⟨(some (.o (.o (.o (.o .h))))), none, .load false 1 (.s (.i (.i (.i .h)))), 0, true⟩,
    ⟨(some (.i (.o (.o (.o .h))))), none, .mov (.s (.o .h)), 0, true⟩,
    ⟨(some (.o (.i (.o (.o .h))))), none, .bin .eql (.s (.o (.o (.o (.o .h))))) (.s (.i (.o (.o (.o .h))))), 0, true⟩] 0)
   (.cond (.s (.o (.i (.o (.o .h)))))
   (.seq (.reg [⟨(some (.i (.o .h))), none, .mov (.c (.bool true)), 0, true⟩] 0)
   .ret)
   .skip)))
   (.reg [⟨(some (.i (.i (.o .h)))), none, .mov (.s (.o (.i .h))), 0, true⟩,
    ⟨(some (.o (.o (.i .h)))), none, .bin .add (.s (.i (.i (.o .h)))) (.c (.int .i64 1)), 0, true⟩,
    ⟨(some (.o (.i .h))), none, .mov (.s (.o (.o (.i .h)))), 0, true⟩] 0))))))
   (.seq (.reg [⟨(some (.i (.o .h))), none, .mov (.c (.bool false)), 0, true⟩] 0)
   .ret))) }

/-- halberd/halberdlaw24.Server -/
noncomputable def d14 : Go.AE.Fd := { np := 0, res := [.cell .h true 15], code :=
   (.seq (.reg [⟨(some .h), none, .alloc [(.bool false), .nils, .nils, .nils, (.str []), .nils, (.str []), (.int .i64 0), (.str []), .nils, (.str []), (.int .i64 0), (.int .i64 0), (.int .i64 0), (.int .i64 0)], 0, true⟩] 0)
   (.seq (.reg [⟨(some (.o .h)), none, .bsl 1 2 [(.int .i64 0), (.int .i64 0)] [(0, 1, (.c (.int .i64 4867))), (1, 1, (.c (.int .i64 4865)))], 0, true⟩,
    ⟨(some (.i .h)), none, .bsl 1 2 [(.int .i64 0), (.int .i64 0)] [(0, 1, (.c (.int .i64 23))), (1, 1, (.c (.int .i64 29)))], 0, true⟩,
    ⟨(some (.o (.o .h))), none, .bsl 1 1 [(.str [])] [(0, 1, (.c (.str [99])))], 0, true⟩,
    ⟨(some (.i (.o .h))), none, .call (.o (.o (.o (.o .h)))) [(.c (.int .i64 31))], 0, true⟩,
    ⟨(some (.o (.i .h))), none, .bin .add (.s (.i (.o .h))) (.c (.str [107])), 0, true⟩,
    ⟨(some (.i (.i .h))), none, .build [(.bool false), .nils, .nils, .nils, (.str []), .nils, (.str []), (.int .i64 0), (.str []), .nils, (.str []), (.int .i64 0), (.int .i64 0), (.int .i64 0), (.int .i64 0)] [(0, 1, (.c (.bool true))), (1, 1, (.s (.o .h))), (2, 1, (.s (.i .h))), (3, 1, (.s (.o (.o .h)))), (4, 1, (.s (.o (.i .h)))), (11, 1, (.c (.int .i64 1000))), (13, 1, (.c (.int .i64 10))), (14, 1, (.c (.int .i64 33290)))], 0, true⟩,
    ⟨none, none, .store 15 (.s .h) (.s (.i (.i .h))), 0, true⟩] 0)
   .ret)) }

/-- halberd/halberdref19.SealTicket -/
noncomputable def d20 : Go.AE.Fd := { np := 3, res := [.tmp (.i (.i .h)), .tmp (.o (.o (.o .h)))], code :=
   (.seq (.reg [⟨(some (.o (.i .h))), none, .box (.s (.i .h)), 0, true⟩,
    ⟨(some (.i (.i .h))), none, .mov (.c (.str [])), 0, true⟩,
    ⟨(some (.o (.o (.o .h)))), none, .mov (.c (.int .i64 0)), 0, true⟩] 0)
   (.seq (.reg [⟨(some (.o (.i (.i .h)))), none, .lea 0 (.s (.o (.i .h))), 0, true⟩,
    ⟨(some (.i (.i (.i .h)))), none, .load false 1 (.s (.o (.i (.i .h)))), 0, true⟩,
    ⟨(some (.o (.o (.o (.o .h))))), none, .call (.i (.o (.o (.o (.o .h))))) [(.s (.i (.i (.i .h))))], 0, true⟩,
    ⟨(some (.i (.o (.i .h)))), none, .mov (.s (.o (.o (.o (.o .h))))), 0, true⟩,
    ⟨(some (.i (.o (.o (.o .h))))), none, .ext 0 (.s (.i (.o (.i .h)))), 0, true⟩,
    ⟨(some (.o (.i (.o (.o .h))))), none, .ext 1 (.s (.i (.o (.i .h)))), 0, true⟩,
    ⟨(some (.i (.o (.o .h)))), none, .mov (.s (.i (.o (.o (.o .h))))), 0, true⟩,
    ⟨(some (.o (.i (.o .h)))), none, .mov (.s (.o (.i (.o (.o .h))))), 0, true⟩] 0)
   (.seq (.seq (.reg [⟨(some (.i (.i (.o (.o .h))))), none, .mov (.s (.o (.i (.o .h)))), 0, true⟩,
    ⟨(some (.o (.o (.i (.o .h))))), none, .bin .neq (.s (.i (.i (.o (.o .h))))) (.c (.int .i64 0)), 0, true⟩,
    ⟨(some (.i (.o (.i (.o .h))))), none, .mov (.s (.o (.o (.i (.o .h))))), 0, true⟩,
    ⟨(some (.o (.i (.i (.o .h))))), (some ((.i (.o (.i (.o .h)))), false)), .mov (.s .h), 0, true⟩,
    ⟨(some (.i (.i (.i (.o .h))))), (some ((.i (.o (.i (.o .h)))), false)), .lenS (.s (.o (.i (.i (.o .h))))), 0, true⟩,
    ⟨(some (.o (.o (.o (.i .h))))), (some ((.i (.o (.i (.o .h)))), false)), .bin .neq (.s (.i (.i (.i (.o .h))))) (.c (.int .i64 32)), 0, true⟩,
    ⟨(some (.i (.o (.o (.i .h))))), none, .pick (.s (.i (.o (.i (.o .h))))) (.c (.bool true)) (.s (.o (.o (.o (.i .h))))), 0, true⟩,
    ⟨(some (.o (.i (.o (.i .h))))), none, .mov (.s (.i (.o (.o (.i .h))))), 0, true⟩,
    ⟨(some (.i (.i (.o (.i .h))))), (some ((.o (.i (.o (.i .h)))), false)), .mov (.s (.o .h)), 0, true⟩,
    ⟨(some (.o (.o (.i (.i .h))))), (some ((.o (.i (.o (.i .h)))), false)), .lenS (.s (.i (.i (.o (.i .h))))), 0, true⟩,
    ⟨(some (.i (.o (.i (.i .h))))), (some ((.o (.i (.o (.i .h)))), false)), .bin .neq (.s (.o (.o (.i (.i .h))))) (.c (.int .i64 12)), 0, true⟩,
    ⟨(some (.o (.i (.i (.i .h))))), none, .pick (.s (.o (.i (.o (.i .h))))) (.c (.bool true)) (.s (.i (.o (.i (.i .h))))), 0, true⟩,
    ⟨(some (.i (.i (.i (.i .h))))), none, .mov (.s (.o (.i (.i (.i .h))))), 0, true⟩,
    ⟨(some (.o (.o (.o (.o (.o .h)))))), (some ((.i (.i (.i (.i .h)))), false)), .lea 1 (.s (.o (.i .h))), 0, true⟩,
    ⟨(some (.i (.o (.o (.o (.o .h)))))), (some ((.i (.i (.i (.i .h)))), false)), .load false 1 (.s (.o (.o (.o (.o (.o .h)))))), 0, true⟩,
    ⟨(some (.o (.i (.o (.o (.o .h)))))), (some ((.i (.i (.i (.i .h)))), false)), .lenS (.s (.i (.o (.o (.o (.o .h)))))), 0, true⟩,
    ⟨(some (.i (.i (.o (.o (.o .h)))))), (some ((.i (.i (.i (.i .h)))), false)), .mov (.s (.i (.o (.o .h)))), 0, true⟩,
    ⟨(some (.o (.o (.i (.o (.o .h)))))), (some ((.i (.i (.i (.i .h)))), false)), .bin .quo (.s (.i (.i (.o (.o (.o .h)))))) (.c (.int .i64 8)), 0, true⟩,
    ⟨(some (.i (.o (.i (.o (.o .h)))))), (some ((.i (.i (.i (.i .h)))), false)), .bin .neq (.s (.o (.i (.o (.o (.o .h)))))) (.s (.o (.o (.i (.o (.o .h)))))), 0, true⟩,
    ⟨(some (.o (.i (.i (.o (.o .h)))))), none, .pick (.s (.i (.i (.i (.i .h))))) (.c (.bool true)) (.s (.i (.o (.i (.o (.o .h)))))), 0, true⟩,
    ⟨(some (.i (.i (.i (.o (.o .h)))))), none, .mov (.s (.o (.i (.i (.o (.o .h)))))), 0, true⟩,
    ⟨(some (.o (.o (.o (.i (.o .h)))))), (some ((.i (.i (.i (.o (.o .h))))), false)), .lea 2 (.s (.o (.i .h))), 0, true⟩,
    ⟨(some (.i (.o (.o (.i (.o .h)))))), (some ((.i (.i (.i (.o (.o .h))))), false)), .load false 1 (.s (.o (.o (.o (.i (.o .h)))))), 0, true⟩,
    ⟨(some (.o (.i (.o (.i (.o .h)))))), (some ((.i (.i (.i (.o (.o .h))))), false)), .bin .lss (.s (.i (.o (.o (.i (.o .h)))))) (.c (.int .i64 0)), 0, true⟩,
    ⟨(some (.i (.i (.o (.i (.o .h)))))), none, .pick (.s (.i (.i (.i (.o (.o .h)))))) (.c (.bool true)) (.s (.o (.i (.o (.i (.o .h)))))), 0, true⟩,
    ⟨(some (.o (.o (.i (.i (.o .h)))))), none, .mov (.s (.i (.i (.o (.i (.o .h)))))), 0, true⟩,
    ⟨(some (.i (.o (.i (.i (.o .h)))))), (some ((.o (.o (.i (.i (.o .h))))), false)), .lea 2 (.s (.o (.i .h))), 0, true⟩,
    ⟨(some (.o (.i (.i (.i (.o .h)))))), (some ((.o (.o (.i (.i (.o .h))))), false)), .load false 1 (.s (.i (.o (.i (.i (.o .h)))))), 0, true⟩,
    ⟨(some (.i (.i (.i (.i (.o .h)))))), (some ((.o (.o (.i (.i (.o .h))))), false)), .bin .gtr (.s (.o (.i (.i (.i (.o .h)))))) (.c (.int .i64 4294967295)), 0, true⟩,
    ⟨(some (.o (.o (.o (.o (.i .h)))))), none, .pick (.s (.o (.o (.i (.i (.o .h)))))) (.c (.bool true)) (.s (.i (.i (.i (.i (.o .h)))))), 0, true⟩,
    ⟨(some (.i (.o (.o (.o (.i .h)))))), none, .mov (.s (.o (.o (.o (.o (.i .h)))))), 0, true⟩,
    ⟨(some (.o (.i (.o (.o (.i .h)))))), (some ((.i (.o (.o (.o (.i .h))))), false)), .lea 3 (.s (.o (.i .h))), 0, true⟩,
    ⟨(some (.i (.i (.o (.o (.i .h)))))), (some ((.i (.o (.o (.o (.i .h))))), false)), .load false 1 (.s (.o (.i (.o (.o (.i .h)))))), 0, true⟩,
    ⟨(some (.o (.o (.i (.o (.i .h)))))), (some ((.i (.o (.o (.o (.i .h))))), false)), .bin .lss (.s (.i (.i (.o (.o (.i .h)))))) (.c (.int .i64 0)), 0, true⟩,
    ⟨(some (.i (.o (.i (.o (.i .h)))))), none, .pick (.s (.i (.o (.o (.o (.i .h)))))) (.c (.bool true)) (.s (.o (.o (.i (.o (.i .h)))))), 0, true⟩,
    ⟨(some (.o (.i (.i (.o (.i .h)))))), none, .mov (.s (.i (.o (.i (.o (.i .h)))))), 0, true⟩,
    ⟨(some (.i (.i (.i (.o (.i .h)))))), (some ((.o (.i (.i (.o (.i .h))))), false)), .lea 3 (.s (.o (.i .h))), 0, true⟩,
    ⟨(some (.o (.o (.o (.i (.i .h)))))), (some ((.o (.i (.i (.o (.i .h))))), false)), .load false 1 (.s (.i (.i (.i (.o (.i .h)))))), 0, true⟩,
    ⟨(some (.i (.o (.o (.i (.i .h)))))), (some ((.o (.i (.i (.o (.i .h))))), false)), .bin .gtr (.s (.o (.o (.o (.i (.i .h)))))) (.c (.int .i64 4294967295)), 0, true⟩,
    ⟨(some (.o (.i (.o (.i (.i .h)))))), none, .pick (.s (.o (.i (.i (.o (.i .h)))))) (.c (.bool true)) (.s (.i (.o (.o (.i (.i .h)))))), 0, true⟩] 0)
   (.cond (.s (.o (.i (.o (.i (.i .h))))))
   (.seq (.reg [⟨(some (.i (.i .h))), none, .mov (.c (.str [])), 0, true⟩,
    ⟨(some (.o (.o (.o .h)))), none, .mov (.c (.int .i64 2000)), 0, true⟩] 0)
   .ret)
   .skip))
   (.seq (.reg [⟨(some (.o (.o (.i (.i (.i .h)))))), none, .mov (.s .h), 0, false⟩,
    ⟨(some (.i (.o (.i (.i (.i .h)))))), none, .mov (.s (.o .h)), 0, false⟩,
    ⟨(some (.o (.i (.i (.i (.i .h)))))), none, .lea 0 (.s (.o (.i .h))), 0, false⟩,
    ⟨(some (.i (.i (.i (.i (.i .h)))))), none, .load false 1 (.s (.o (.i (.i (.i (.i .h)))))), 0, false⟩,
    ⟨(some (.o (.o (.o (.o (.o (.o .h))))))), none, .call (.i (.i (.o (.o (.o .h))))) [(.s (.i (.i (.i (.i (.i .h)))))), (.c (.int .i64 2))], 0, false⟩,
    ⟨(some (.i (.o (.o (.o (.o (.o .h))))))), none, .lea 2 (.s (.o (.i .h))), 0, false⟩,
    ⟨(some (.o (.i (.o (.o (.o (.o .h))))))), none, .load false 1 (.s (.i (.o (.o (.o (.o (.o .h))))))), 0, false⟩,
    ⟨(some (.i (.i (.o (.o (.o (.o .h))))))), none, .call (.i (.i (.o (.o (.o .h))))) [(.s (.o (.i (.o (.o (.o (.o .h))))))), (.c (.int .i64 4))], 0, false⟩,
    ⟨(some (.o (.o (.i (.o (.o (.o .h))))))), none, .bin .add (.s (.o (.o (.o (.o (.o (.o .h))))))) (.s (.i (.i (.o (.o (.o (.o .h))))))), 0, false⟩,
    ⟨(some (.i (.o (.i (.o (.o (.o .h))))))), none, .lea 3 (.s (.o (.i .h))), 0, false⟩,
    ⟨(some (.o (.i (.i (.o (.o (.o .h))))))), none, .load false 1 (.s (.i (.o (.i (.o (.o (.o .h))))))), 0, false⟩,
    ⟨(some (.i (.i (.i (.o (.o (.o .h))))))), none, .call (.i (.i (.o (.o (.o .h))))) [(.s (.o (.i (.i (.o (.o (.o .h))))))), (.c (.int .i64 4))], 0, false⟩,
    ⟨(some (.o (.o (.o (.i (.o (.o .h))))))), none, .bin .add (.s (.o (.o (.i (.o (.o (.o .h))))))) (.s (.i (.i (.i (.o (.o (.o .h))))))), 0, false⟩,
    ⟨(some (.i (.o (.o (.i (.o (.o .h))))))), none, .lea 1 (.s (.o (.i .h))), 0, false⟩,
    ⟨(some (.o (.i (.o (.i (.o (.o .h))))))), none, .load false 1 (.s (.i (.o (.o (.i (.o (.o .h))))))), 0, false⟩,
    ⟨(some (.i (.i (.o (.i (.o (.o .h))))))), none, .bin .add (.s (.o (.o (.o (.i (.o (.o .h))))))) (.s (.o (.i (.o (.i (.o (.o .h))))))), 0, false⟩,
    ⟨(some (.o (.o (.i (.i (.o (.o .h))))))), none, .call (.o (.i (.o (.o (.o .h))))) [(.s (.o (.o (.i (.i (.i .h)))))), (.s (.i (.o (.i (.i (.i .h)))))), (.c (.str [])), (.s (.i (.i (.o (.i (.o (.o .h)))))))], 0, false⟩,
    ⟨(some (.i (.i (.o (.i (.i .h)))))), none, .mov (.s (.o (.o (.i (.i (.o (.o .h))))))), 0, false⟩,
    ⟨(some (.i (.o (.i (.i (.o (.o .h))))))), none, .ext 0 (.s (.i (.i (.o (.i (.i .h)))))), 0, false⟩,
    ⟨(some (.o (.i (.i (.i (.o (.o .h))))))), none, .ext 1 (.s (.i (.i (.o (.i (.i .h)))))), 0, false⟩,
    ⟨(some (.i (.i (.o .h)))), none, .mov (.s (.i (.o (.i (.i (.o (.o .h))))))), 0, false⟩,
    ⟨(some (.o (.o (.i .h)))), none, .mov (.s (.o (.i (.i (.i (.o (.o .h))))))), 0, false⟩] 0)
   (.seq (.reg [⟨(some (.i (.i (.i (.i (.o (.o .h))))))), none, .mov (.s (.o .h)), 0, true⟩,
    ⟨(some (.o (.o (.o (.o (.i (.o .h))))))), none, .mov (.s (.i (.i (.o .h)))), 0, true⟩,
    ⟨(some (.i (.o (.o (.o (.i (.o .h))))))), none, .bin .add (.s (.i (.i (.i (.i (.o (.o .h))))))) (.s (.o (.o (.o (.o (.i (.o .h))))))), 0, true⟩,
    ⟨(some (.i (.i .h))), none, .mov (.s (.i (.o (.o (.o (.i (.o .h))))))), 0, true⟩,
    ⟨(some (.o (.o (.o .h)))), none, .mov (.c (.int .i64 0)), 0, true⟩] 0)
   .ret))))) }

/-- (*halberd/hello.asking).offers -/
noncomputable def d21 : Go.AE.Fd := { np := 1, res := [.tmp (.i .h)], code :=
   (.seq (.reg [⟨(some (.i .h)), none, .mov (.c (.int .i64 0)), 0, true⟩] 0)
   (.seq (.reg [⟨(some (.o (.o .h))), none, .mov (.c (.bool false)), 0, true⟩] 0)
   (.seq (.reg [⟨(some (.o (.i .h))), none, .mov (.s .h), 0, false⟩,
    ⟨(some (.i (.i .h))), none, .mov (.s .h), 0, false⟩,
    ⟨(some (.o (.o (.o .h)))), none, .nilc (.s (.i (.i .h))), 0, false⟩,
    ⟨(some (.i (.o (.o .h)))), none, .lea 0 (.s (.o (.o (.o .h)))), 0, false⟩,
    ⟨(some (.o (.i (.o .h)))), none, .load false 1 (.s (.i (.o (.o .h)))), 0, false⟩,
    ⟨(some (.i (.i (.o .h)))), none, .nilc (.s (.o (.i (.o .h)))), 0, false⟩,
    ⟨(some (.o (.o (.i .h)))), none, .lea 1 (.s (.i (.i (.o .h)))), 0, false⟩,
    ⟨(some (.i (.o (.i .h)))), none, .load false 1 (.s (.o (.o (.i .h)))), 0, false⟩,
    ⟨(some (.o (.i (.i .h)))), none, .mov (.s .h), 0, false⟩,
    ⟨(some (.i (.i (.i .h)))), none, .nilc (.s (.o (.i (.i .h)))), 0, false⟩,
    ⟨(some (.o (.o (.o (.o .h))))), none, .lea 1 (.s (.i (.i (.i .h)))), 0, false⟩,
    ⟨(some (.i (.o (.o (.o .h))))), none, .load false 1 (.s (.o (.o (.o (.o .h))))), 0, false⟩,
    ⟨(some (.o (.i (.o (.o .h))))), none, .nilc (.s (.i (.o (.o (.o .h))))), 0, false⟩,
    ⟨(some (.i (.i (.o (.o .h))))), none, .lea 3 (.s (.o (.i (.o (.o .h))))), 0, false⟩,
    ⟨(some (.o (.o (.i (.o .h))))), none, .load false 1 (.s (.i (.i (.o (.o .h))))), 0, false⟩,
    ⟨(some (.i (.o (.i (.o .h))))), none, .call (.o (.o (.i (.o (.o .h))))) [(.s (.i (.o (.i .h)))), (.s (.o (.o (.i (.o .h)))))], 0, false⟩,
    ⟨(some (.i (.o .h))), none, .mov (.s (.i (.o (.i (.o .h))))), 0, false⟩,
    ⟨(some (.o (.i (.i (.o .h))))), none, .ext 0 (.s (.i (.o .h))), 0, false⟩,
    ⟨(some (.i (.i (.i (.o .h))))), none, .ext 1 (.s (.i (.o .h))), 0, false⟩,
    ⟨(some (.o (.o (.o (.i .h))))), none, .nilc (.s (.o (.i .h))), 0, false⟩,
    ⟨(some (.i (.o (.o (.i .h))))), none, .lea 4 (.s (.o (.o (.o (.i .h))))), 0, false⟩,
    ⟨(some (.o (.i (.o (.i .h))))), none, .lea 0 (.s (.i (.o (.o (.i .h))))), 0, false⟩,
    ⟨none, none, .store 1 (.s (.o (.i (.o (.i .h))))) (.s (.o (.i (.i (.o .h))))), 0, false⟩,
    ⟨(some (.o (.o .h))), none, .mov (.s (.i (.i (.i (.o .h))))), 0, false⟩] 0)
   (.seq (.block 0 (.seq (.reg [⟨(some (.o (.o (.i (.i .h))))), none, .mov (.s .h), 0, true⟩,
    ⟨(some (.i (.o (.i (.i .h))))), none, .nilc (.s (.o (.o (.i (.i .h))))), 0, true⟩,
    ⟨(some (.o (.i (.i (.i .h))))), none, .lea 1 (.s (.i (.o (.i (.i .h))))), 0, true⟩,
    ⟨(some (.i (.i (.i (.i .h))))), none, .load false 1 (.s (.o (.i (.i (.i .h))))), 0, true⟩,
    ⟨(some (.o (.o (.o (.o (.o .h)))))), none, .nilc (.s (.i (.i (.i (.i .h))))), 0, true⟩,
    ⟨(some (.i (.o (.o (.o (.o .h)))))), none, .lea 5 (.s (.o (.o (.o (.o (.o .h)))))), 0, true⟩,
    ⟨(some (.o (.i (.o (.o (.o .h)))))), none, .load false 1 (.s (.i (.o (.o (.o (.o .h)))))), 0, true⟩,
    ⟨(some (.i (.i (.o (.o (.o .h)))))), none, .call (.i (.o (.i (.o (.o .h))))) [(.s (.o (.i (.o (.o (.o .h)))))), (.c (.int .i64 772))], 0, true⟩,
    ⟨(some (.o (.o (.i (.o (.o .h)))))), none, .un .not (.s (.i (.i (.o (.o (.o .h)))))), 0, true⟩,
    ⟨(some (.i (.i (.o (.i .h))))), none, .mov (.s (.o (.o (.i (.o (.o .h)))))), 0, true⟩] 0)
   (.cond (.s (.i (.i (.o (.i .h)))))
   (.seq (.reg [⟨(some (.i .h)), none, .mov (.c (.int .i64 70)), 0, true⟩] 0)
   .ret)
   (.seq (.reg [⟨(some (.o (.i (.i (.o (.o .h)))))), none, .mov (.s (.o (.o .h))), 0, true⟩,
    ⟨(some (.i (.i (.i (.o (.o .h)))))), none, .un .not (.s (.o (.i (.i (.o (.o .h)))))), 0, true⟩,
    ⟨(some (.i (.o (.i (.o (.o .h)))))), none, .mov (.s (.i (.i (.i (.o (.o .h)))))), 0, true⟩] 0)
   (.cond (.s (.i (.o (.i (.o (.o .h))))))
   (.seq (.reg [⟨(some (.i .h)), none, .mov (.c (.int .i64 40)), 0, true⟩] 0)
   .ret)
   (.seq (.reg [⟨(some (.i (.o (.o (.i (.o .h)))))), none, .mov (.s .h), 0, true⟩,
    ⟨(some (.o (.i (.o (.i (.o .h)))))), none, .nilc (.s (.i (.o (.o (.i (.o .h)))))), 0, true⟩,
    ⟨(some (.i (.i (.o (.i (.o .h)))))), none, .lea 1 (.s (.o (.i (.o (.i (.o .h)))))), 0, true⟩,
    ⟨(some (.o (.o (.i (.i (.o .h)))))), none, .load false 1 (.s (.i (.i (.o (.i (.o .h)))))), 0, true⟩,
    ⟨(some (.i (.o (.i (.i (.o .h)))))), none, .nilc (.s (.o (.o (.i (.i (.o .h)))))), 0, true⟩,
    ⟨(some (.o (.i (.i (.i (.o .h)))))), none, .lea 6 (.s (.i (.o (.i (.i (.o .h)))))), 0, true⟩,
    ⟨(some (.i (.i (.i (.i (.o .h)))))), none, .load false 1 (.s (.o (.i (.i (.i (.o .h)))))), 0, true⟩,
    ⟨(some (.o (.o (.o (.o (.i .h)))))), none, .len (.s (.i (.i (.i (.i (.o .h)))))), 0, true⟩,
    ⟨(some (.i (.o (.o (.o (.i .h)))))), none, .bin .eql (.s (.o (.o (.o (.o (.i .h)))))) (.c (.int .i64 0)), 0, true⟩,
    ⟨(some (.o (.i (.o (.o (.i .h)))))), none, .mov (.s (.i (.o (.o (.o (.i .h)))))), 0, true⟩,
    ⟨(some (.i (.i (.o (.o (.i .h)))))), (some ((.o (.i (.o (.o (.i .h))))), false)), .mov (.s .h), 0, true⟩,
    ⟨(some (.o (.o (.i (.o (.i .h)))))), (some ((.o (.i (.o (.o (.i .h))))), false)), .nilc (.s (.i (.i (.o (.o (.i .h)))))), 0, true⟩,
    ⟨(some (.i (.o (.i (.o (.i .h)))))), (some ((.o (.i (.o (.o (.i .h))))), false)), .lea 1 (.s (.o (.o (.i (.o (.i .h)))))), 0, true⟩,
    ⟨(some (.o (.i (.i (.o (.i .h)))))), (some ((.o (.i (.o (.o (.i .h))))), false)), .load false 1 (.s (.i (.o (.i (.o (.i .h)))))), 0, true⟩,
    ⟨(some (.i (.i (.i (.o (.i .h)))))), (some ((.o (.i (.o (.o (.i .h))))), false)), .nilc (.s (.o (.i (.i (.o (.i .h)))))), 0, true⟩,
    ⟨(some (.o (.o (.o (.i (.i .h)))))), (some ((.o (.i (.o (.o (.i .h))))), false)), .lea 9 (.s (.i (.i (.i (.o (.i .h)))))), 0, true⟩,
    ⟨(some (.i (.o (.o (.i (.i .h)))))), (some ((.o (.i (.o (.o (.i .h))))), false)), .load false 1 (.s (.o (.o (.o (.i (.i .h)))))), 0, true⟩,
    ⟨(some (.o (.i (.o (.i (.i .h)))))), (some ((.o (.i (.o (.o (.i .h))))), false)), .len (.s (.i (.o (.o (.i (.i .h)))))), 0, true⟩,
    ⟨(some (.i (.i (.o (.i (.i .h)))))), (some ((.o (.i (.o (.o (.i .h))))), false)), .bin .eql (.s (.o (.i (.o (.i (.i .h)))))) (.c (.int .i64 0)), 0, true⟩,
    ⟨(some (.o (.o (.i (.i (.i .h)))))), none, .pick (.s (.o (.i (.o (.o (.i .h)))))) (.c (.bool true)) (.s (.i (.i (.o (.i (.i .h)))))), 0, true⟩,
    ⟨(some (.o (.o (.o (.i (.o .h)))))), none, .mov (.s (.o (.o (.i (.i (.i .h)))))), 0, true⟩] 0)
   (.cond (.s (.o (.o (.o (.i (.o .h))))))
   (.seq (.reg [⟨(some (.i .h)), none, .mov (.c (.int .i64 109)), 0, true⟩] 0)
   .ret)
   .skip)))))))
   (.seq (.reg [⟨(some (.i .h)), none, .mov (.c (.int .i64 (-1))), 0, true⟩] 0)
   .ret))))) }

/-- (*halberd/hello.asking).shares -/
noncomputable def d22 : Go.AE.Fd := { np := 1, res := [.tmp (.i .h)], code :=
   (.seq (.reg [⟨(some (.o .h)), none, .box (.s .h), 0, true⟩,
    ⟨(some (.i .h)), none, .mov (.c (.int .i64 0)), 0, true⟩] 0)
   (.seq (.reg [⟨(some (.o (.o .h))), none, .mov (.c (.bool false)), 0, true⟩] 0)
   (.seq (.seq (.reg [⟨(some (.o (.i (.o .h)))), none, .load false 1 (.s (.o .h)), 0, false⟩,
    ⟨(some (.i (.i (.o .h)))), none, .load false 1 (.s (.o .h)), 0, false⟩,
    ⟨(some (.o (.o (.i .h)))), none, .nilc (.s (.i (.i (.o .h)))), 0, false⟩,
    ⟨(some (.i (.o (.i .h)))), none, .lea 0 (.s (.o (.o (.i .h)))), 0, false⟩,
    ⟨(some (.o (.i (.i .h)))), none, .load false 1 (.s (.i (.o (.i .h)))), 0, false⟩,
    ⟨(some (.i (.i (.i .h)))), none, .nilc (.s (.o (.i (.i .h)))), 0, false⟩,
    ⟨(some (.o (.o (.o (.o .h))))), none, .lea 2 (.s (.i (.i (.i .h)))), 0, false⟩,
    ⟨(some (.i (.o (.o (.o .h))))), none, .load false 1 (.s (.o (.o (.o (.o .h))))), 0, false⟩,
    ⟨(some (.o (.i (.o (.o .h))))), none, .load false 1 (.s (.o .h)), 0, false⟩,
    ⟨(some (.i (.i (.o (.o .h))))), none, .nilc (.s (.o (.i (.o (.o .h))))), 0, false⟩,
    ⟨(some (.o (.o (.i (.o .h))))), none, .lea 1 (.s (.i (.i (.o (.o .h))))), 0, false⟩,
    ⟨(some (.i (.o (.i (.o .h))))), none, .load false 1 (.s (.o (.o (.i (.o .h))))), 0, false⟩,
    ⟨(some (.o (.i (.i (.o .h))))), none, .nilc (.s (.i (.o (.i (.o .h))))), 0, false⟩,
    ⟨(some (.i (.i (.i (.o .h))))), none, .lea 6 (.s (.o (.i (.i (.o .h))))), 0, false⟩,
    ⟨(some (.o (.o (.o (.i .h))))), none, .load false 1 (.s (.i (.i (.i (.o .h))))), 0, false⟩,
    ⟨(some (.i (.o (.o (.i .h))))), none, .call (.o (.o (.i (.o (.o .h))))) [(.s (.i (.o (.o (.o .h))))), (.s (.o (.o (.o (.i .h)))))], 0, false⟩,
    ⟨(some (.i (.o (.o .h)))), none, .mov (.s (.i (.o (.o (.i .h))))), 0, false⟩,
    ⟨(some (.o (.i (.o (.i .h))))), none, .ext 0 (.s (.i (.o (.o .h)))), 0, false⟩,
    ⟨(some (.i (.i (.o (.i .h))))), none, .ext 1 (.s (.i (.o (.o .h)))), 0, false⟩,
    ⟨(some (.o (.o (.i (.i .h))))), none, .nilc (.s (.o (.i (.o .h)))), 0, false⟩,
    ⟨(some (.i (.o (.i (.i .h))))), none, .lea 4 (.s (.o (.o (.i (.i .h))))), 0, false⟩,
    ⟨(some (.o (.i (.i (.i .h))))), none, .lea 1 (.s (.i (.o (.i (.i .h))))), 0, false⟩,
    ⟨none, none, .store 1 (.s (.o (.i (.i (.i .h))))) (.s (.o (.i (.o (.i .h))))), 0, false⟩,
    ⟨(some (.o (.o .h))), none, .mov (.s (.i (.i (.o (.i .h))))), 0, false⟩] 0)
   (.seq (.reg [⟨(some (.i (.i (.i (.i .h))))), none, .mov (.s (.o (.o .h))), 0, true⟩,
    ⟨(some (.o (.o (.o (.o (.o .h)))))), none, .un .not (.s (.i (.i (.i (.i .h))))), 0, true⟩] 0)
   (.cond (.s (.o (.o (.o (.o (.o .h))))))
   (.seq (.reg [⟨(some (.i .h)), none, .mov (.c (.int .i64 40)), 0, true⟩] 0)
   .ret)
   .skip)))
   (.seq (.seq (.reg [⟨(some (.i (.o (.o (.o (.o .h)))))), none, .load false 1 (.s (.o .h)), 0, true⟩,
    ⟨(some (.o (.i (.o (.o (.o .h)))))), none, .nilc (.s (.i (.o (.o (.o (.o .h)))))), 0, true⟩,
    ⟨(some (.i (.i (.o (.o (.o .h)))))), none, .lea 1 (.s (.o (.i (.o (.o (.o .h)))))), 0, true⟩,
    ⟨(some (.o (.o (.i (.o (.o .h)))))), none, .load false 1 (.s (.i (.i (.o (.o (.o .h)))))), 0, true⟩,
    ⟨(some (.i (.o (.i (.o (.o .h)))))), none, .nilc (.s (.o (.o (.i (.o (.o .h)))))), 0, true⟩,
    ⟨(some (.o (.i (.i (.o (.o .h)))))), none, .lea 9 (.s (.i (.o (.i (.o (.o .h)))))), 0, true⟩,
    ⟨(some (.i (.i (.i (.o (.o .h)))))), none, .load false 1 (.s (.o (.i (.i (.o (.o .h)))))), 0, true⟩,
    ⟨(some (.o (.o (.o (.i (.o .h)))))), none, .len (.s (.i (.i (.i (.o (.o .h)))))), 0, true⟩,
    ⟨(some (.i (.o (.o (.i (.o .h)))))), none, .mov (.c (.int .i64 0)), 0, true⟩] 0)
   (.block 0 (.loop (.seq (.reg [⟨(some (.o (.i (.o (.i (.o .h)))))), none, .bin .lss (.s (.i (.o (.o (.i (.o .h)))))) (.s (.o (.o (.o (.i (.o .h)))))), 0, true⟩] 0)
   (.seq (.cond (.s (.o (.i (.o (.i (.o .h))))))
   .skip
   (.exit 0))
   (.seq (.block 1 (.seq (.reg [⟨(some (.i (.i (.o (.i (.o .h)))))), none, .mov (.s (.i (.o (.o (.i (.o .h)))))), 0, true⟩,
    ⟨(some (.o (.o (.i (.i (.o .h)))))), none, .ixS 2 (.s (.i (.i (.i (.o (.o .h)))))) (.s (.i (.o (.o (.i (.o .h)))))), 0, true⟩,
    ⟨(some (.i (.o (.i (.i (.o .h)))))), none, .load true 2 (.s (.o (.o (.i (.i (.o .h)))))), 0, true⟩,
    ⟨(some (.o (.i .h))), none, .alloc [(.int .i64 0), (.str [])], 0, true⟩,
    ⟨(some (.i (.o .h))), none, .mov (.s (.i (.i (.o (.i (.o .h)))))), 0, true⟩,
    ⟨none, none, .store 2 (.s (.o (.i .h))) (.s (.i (.o (.i (.i (.o .h)))))), 0, true⟩] 0)
   (.seq (.reg [⟨(some (.o (.i (.i (.i (.o .h)))))), none, .load false 1 (.s (.o .h)), 0, true⟩,
    ⟨(some (.i (.i (.i (.i (.o .h)))))), none, .nilc (.s (.o (.i (.i (.i (.o .h)))))), 0, true⟩,
    ⟨(some (.o (.o (.o (.o (.i .h)))))), none, .lea 1 (.s (.i (.i (.i (.i (.o .h)))))), 0, true⟩,
    ⟨(some (.i (.o (.o (.o (.i .h)))))), none, .load false 1 (.s (.o (.o (.o (.o (.i .h)))))), 0, true⟩,
    ⟨(some (.o (.i (.o (.o (.i .h)))))), none, .nilc (.s (.i (.o (.o (.o (.i .h)))))), 0, true⟩,
    ⟨(some (.i (.i (.o (.o (.i .h)))))), none, .lea 9 (.s (.o (.i (.o (.o (.i .h)))))), 0, true⟩,
    ⟨(some (.o (.o (.i (.o (.i .h)))))), none, .load false 1 (.s (.i (.i (.o (.o (.i .h)))))), 0, true⟩,
    ⟨(some (.i (.o (.i (.o (.i .h)))))), none, .mov (.s (.i (.o .h))), 0, true⟩,
    ⟨(some (.o (.i (.i (.o (.i .h)))))), none, .slSl 2 (.s (.o (.o (.i (.o (.i .h)))))) none (some (.s (.i (.o (.i (.o (.i .h))))))), 0, true⟩,
    ⟨(some (.i (.i (.i (.o (.i .h)))))), none, .mkfn (.i (.i (.i (.o (.o .h))))) [(.s (.o (.i .h)))], 0, true⟩,
    ⟨(some (.o (.o (.o (.i (.i .h)))))), none, .call (.o (.i (.i (.o (.o .h))))) [(.s (.o (.i (.i (.o (.i .h)))))), (.s (.i (.i (.i (.o (.i .h))))))], 0, true⟩,
    ⟨(some (.i (.i .h))), none, .mov (.s (.o (.o (.o (.i (.i .h)))))), 0, true⟩] 0)
   (.seq (.reg [⟨(some (.i (.o (.o (.i (.i .h)))))), none, .mov (.s (.i (.i .h))), 0, false⟩,
    ⟨(some (.o (.i (.o (.i (.i .h)))))), none, .mov (.s (.i (.o (.o (.i (.i .h)))))), 0, false⟩,
    ⟨(some (.i (.i (.o (.i (.i .h)))))), (some ((.o (.i (.o (.i (.i .h))))), false)), .load false 1 (.s (.o .h)), 0, false⟩,
    ⟨(some (.o (.o (.i (.i (.i .h)))))), (some ((.o (.i (.o (.i (.i .h))))), false)), .nilc (.s (.i (.i (.o (.i (.i .h)))))), 0, false⟩,
    ⟨(some (.i (.o (.i (.i (.i .h)))))), (some ((.o (.i (.o (.i (.i .h))))), false)), .lea 1 (.s (.o (.o (.i (.i (.i .h)))))), 0, false⟩,
    ⟨(some (.o (.i (.i (.i (.i .h)))))), (some ((.o (.i (.o (.i (.i .h))))), false)), .load false 1 (.s (.i (.o (.i (.i (.i .h)))))), 0, false⟩,
    ⟨(some (.i (.i (.i (.i (.i .h)))))), (some ((.o (.i (.o (.i (.i .h))))), false)), .nilc (.s (.o (.i (.i (.i (.i .h)))))), 0, false⟩,
    ⟨(some (.o (.o (.o (.o (.o (.o .h))))))), (some ((.o (.i (.o (.i (.i .h))))), false)), .lea 6 (.s (.i (.i (.i (.i (.i .h)))))), 0, false⟩,
    ⟨(some (.i (.o (.o (.o (.o (.o .h))))))), (some ((.o (.i (.o (.i (.i .h))))), false)), .load false 1 (.s (.o (.o (.o (.o (.o (.o .h))))))), 0, false⟩,
    ⟨(some (.o (.i (.o (.o (.o (.o .h))))))), (some ((.o (.i (.o (.i (.i .h))))), false)), .lea 0 (.s (.o (.i .h))), 0, false⟩,
    ⟨(some (.i (.i (.o (.o (.o (.o .h))))))), (some ((.o (.i (.o (.i (.i .h))))), false)), .load false 1 (.s (.o (.i (.o (.o (.o (.o .h))))))), 0, false⟩,
    ⟨(some (.o (.o (.i (.o (.o (.o .h))))))), (some ((.o (.i (.o (.i (.i .h))))), false)), .call (.i (.o (.i (.o (.o .h))))) [(.s (.i (.o (.o (.o (.o (.o .h))))))), (.s (.i (.i (.o (.o (.o (.o .h)))))))], 0, false⟩,
    ⟨(some (.i (.o (.i (.o (.o (.o .h))))))), (some ((.o (.i (.o (.i (.i .h))))), false)), .un .not (.s (.o (.o (.i (.o (.o (.o .h))))))), 0, false⟩,
    ⟨(some (.o (.i (.i (.o (.o (.o .h))))))), none, .pick (.s (.o (.i (.o (.i (.i .h)))))) (.c (.bool true)) (.s (.i (.o (.i (.o (.o (.o .h))))))), 0, false⟩] 0)
   (.cond (.s (.o (.i (.i (.o (.o (.o .h)))))))
   (.seq (.reg [⟨(some (.i .h)), none, .mov (.c (.int .i64 47)), 0, true⟩] 0)
   .ret)
   .skip)))))
   (.reg [⟨(some (.i (.i (.i (.o (.o (.o .h))))))), none, .bin .add (.s (.i (.o (.o (.i (.o .h)))))) (.c (.int .i64 1)), 0, true⟩,
    ⟨(some (.i (.o (.o (.i (.o .h)))))), none, .mov (.s (.i (.i (.i (.o (.o (.o .h))))))), 0, true⟩] 0)))))))
   (.seq (.seq (.reg [⟨(some (.o (.o (.o (.i (.o (.o .h))))))), none, .load false 1 (.s (.o .h)), 0, true⟩,
    ⟨(some (.i (.o (.o (.i (.o (.o .h))))))), none, .nilc (.s (.o (.o (.o (.i (.o (.o .h))))))), 0, true⟩,
    ⟨(some (.o (.i (.o (.i (.o (.o .h))))))), none, .lea 2 (.s (.i (.o (.o (.i (.o (.o .h))))))), 0, true⟩,
    ⟨(some (.i (.i (.o (.i (.o (.o .h))))))), none, .load false 1 (.s (.o (.i (.o (.i (.o (.o .h))))))), 0, true⟩] 0)
   (.cond (.s (.i (.i (.o (.i (.o (.o .h)))))))
   (.seq (.seq (.reg [⟨(some (.o (.o (.i (.i (.o (.o .h))))))), none, .load false 1 (.s (.o .h)), 0, false⟩,
    ⟨(some (.i (.o (.i (.i (.o (.o .h))))))), none, .nilc (.s (.o (.o (.i (.i (.o (.o .h))))))), 0, false⟩,
    ⟨(some (.o (.i (.i (.i (.o (.o .h))))))), none, .lea 1 (.s (.i (.o (.i (.i (.o (.o .h))))))), 0, false⟩,
    ⟨(some (.i (.i (.i (.i (.o (.o .h))))))), none, .load false 1 (.s (.o (.i (.i (.i (.o (.o .h))))))), 0, false⟩,
    ⟨(some (.o (.o (.o (.o (.i (.o .h))))))), none, .nilc (.s (.i (.i (.i (.i (.o (.o .h))))))), 0, false⟩,
    ⟨(some (.i (.o (.o (.o (.i (.o .h))))))), none, .lea 9 (.s (.o (.o (.o (.o (.i (.o .h))))))), 0, false⟩,
    ⟨(some (.o (.i (.o (.o (.i (.o .h))))))), none, .load false 1 (.s (.i (.o (.o (.o (.i (.o .h))))))), 0, false⟩,
    ⟨(some (.i (.i (.o (.o (.i (.o .h))))))), none, .len (.s (.o (.i (.o (.o (.i (.o .h))))))), 0, false⟩,
    ⟨(some (.o (.o (.i (.o (.i (.o .h))))))), none, .bin .neq (.s (.i (.i (.o (.o (.i (.o .h))))))) (.c (.int .i64 1)), 0, false⟩,
    ⟨(some (.i (.o (.i (.o (.i (.o .h))))))), none, .mov (.s (.o (.o (.i (.o (.i (.o .h))))))), 0, false⟩,
    ⟨(some (.o (.i (.i (.o (.i (.o .h))))))), (some ((.i (.o (.i (.o (.i (.o .h)))))), false)), .load false 1 (.s (.o .h)), 0, false⟩,
    ⟨(some (.i (.i (.i (.o (.i (.o .h))))))), (some ((.i (.o (.i (.o (.i (.o .h)))))), false)), .nilc (.s (.o (.i (.i (.o (.i (.o .h))))))), 0, false⟩,
    ⟨(some (.o (.o (.o (.i (.i (.o .h))))))), (some ((.i (.o (.i (.o (.i (.o .h)))))), false)), .lea 1 (.s (.i (.i (.i (.o (.i (.o .h))))))), 0, false⟩,
    ⟨(some (.i (.o (.o (.i (.i (.o .h))))))), (some ((.i (.o (.i (.o (.i (.o .h)))))), false)), .load false 1 (.s (.o (.o (.o (.i (.i (.o .h))))))), 0, false⟩,
    ⟨(some (.o (.i (.o (.i (.i (.o .h))))))), (some ((.i (.o (.i (.o (.i (.o .h)))))), false)), .nilc (.s (.i (.o (.o (.i (.i (.o .h))))))), 0, false⟩,
    ⟨(some (.i (.i (.o (.i (.i (.o .h))))))), (some ((.i (.o (.i (.o (.i (.o .h)))))), false)), .lea 9 (.s (.o (.i (.o (.i (.i (.o .h))))))), 0, false⟩,
    ⟨(some (.o (.o (.i (.i (.i (.o .h))))))), (some ((.i (.o (.i (.o (.i (.o .h)))))), false)), .load false 1 (.s (.i (.i (.o (.i (.i (.o .h))))))), 0, false⟩,
    ⟨(some (.i (.o (.i (.i (.i (.o .h))))))), (some ((.i (.o (.i (.o (.i (.o .h)))))), false)), .ixS 2 (.s (.o (.o (.i (.i (.i (.o .h))))))) (.c (.int .i64 0)), 0, false⟩,
    ⟨(some (.o (.i (.i (.i (.i (.o .h))))))), (some ((.i (.o (.i (.o (.i (.o .h)))))), false)), .lea 0 (.s (.i (.o (.i (.i (.i (.o .h))))))), 0, false⟩,
    ⟨(some (.i (.i (.i (.i (.i (.o .h))))))), (some ((.i (.o (.i (.o (.i (.o .h)))))), false)), .load false 1 (.s (.o (.i (.i (.i (.i (.o .h))))))), 0, false⟩,
    ⟨(some (.o (.o (.o (.o (.o (.i .h))))))), (some ((.i (.o (.i (.o (.i (.o .h)))))), false)), .load false 1 (.s (.o .h)), 0, false⟩,
    ⟨(some (.i (.o (.o (.o (.o (.i .h))))))), (some ((.i (.o (.i (.o (.i (.o .h)))))), false)), .nilc (.s (.o (.o (.o (.o (.o (.i .h))))))), 0, false⟩,
    ⟨(some (.o (.i (.o (.o (.o (.i .h))))))), (some ((.i (.o (.i (.o (.i (.o .h)))))), false)), .lea 3 (.s (.i (.o (.o (.o (.o (.i .h))))))), 0, false⟩,
    ⟨(some (.i (.i (.o (.o (.o (.i .h))))))), (some ((.i (.o (.i (.o (.i (.o .h)))))), false)), .load false 1 (.s (.o (.i (.o (.o (.o (.i .h))))))), 0, false⟩,
    ⟨(some (.o (.o (.i (.o (.o (.i .h))))))), (some ((.i (.o (.i (.o (.i (.o .h)))))), false)), .bin .neq (.s (.i (.i (.i (.i (.i (.o .h))))))) (.s (.i (.i (.o (.o (.o (.i .h))))))), 0, false⟩,
    ⟨(some (.i (.o (.i (.o (.o (.i .h))))))), none, .pick (.s (.i (.o (.i (.o (.i (.o .h))))))) (.c (.bool true)) (.s (.o (.o (.i (.o (.o (.i .h))))))), 0, false⟩] 0)
   (.cond (.s (.i (.o (.i (.o (.o (.i .h)))))))
   (.seq (.reg [⟨(some (.i .h)), none, .mov (.c (.int .i64 47)), 0, true⟩] 0)
   .ret)
   .skip))
   (.reg [⟨(some (.o (.i (.i (.o (.o (.i .h))))))), none, .load false 1 (.s (.o .h)), 0, false⟩,
    ⟨(some (.i (.i (.i (.o (.o (.i .h))))))), none, .load false 1 (.s (.o .h)), 0, false⟩,
    ⟨(some (.o (.o (.o (.i (.o (.i .h))))))), none, .nilc (.s (.i (.i (.i (.o (.o (.i .h))))))), 0, false⟩,
    ⟨(some (.i (.o (.o (.i (.o (.i .h))))))), none, .lea 3 (.s (.o (.o (.o (.i (.o (.i .h))))))), 0, false⟩,
    ⟨(some (.o (.i (.o (.i (.o (.i .h))))))), none, .load false 1 (.s (.i (.o (.o (.i (.o (.i .h))))))), 0, false⟩,
    ⟨(some (.i (.i (.o (.i (.o (.i .h))))))), none, .nilc (.s (.o (.i (.i (.o (.o (.i .h))))))), 0, false⟩,
    ⟨(some (.o (.o (.i (.i (.o (.i .h))))))), none, .lea 4 (.s (.i (.i (.o (.i (.o (.i .h))))))), 0, false⟩,
    ⟨(some (.i (.o (.i (.i (.o (.i .h))))))), none, .lea 1 (.s (.o (.o (.i (.i (.o (.i .h))))))), 0, false⟩,
    ⟨none, none, .store 1 (.s (.i (.o (.i (.i (.o (.i .h))))))) (.s (.o (.i (.o (.i (.o (.i .h))))))), 0, false⟩] 0))
   .skip))
   (.seq (.reg [⟨(some (.o (.i (.i (.i (.o (.i .h))))))), none, .load false 1 (.s (.o .h)), 0, true⟩,
    ⟨(some (.i (.i (.i (.i (.o (.i .h))))))), none, .nilc (.s (.o (.i (.i (.i (.o (.i .h))))))), 0, true⟩,
    ⟨(some (.o (.o (.o (.o (.i (.i .h))))))), none, .lea 1 (.s (.i (.i (.i (.i (.o (.i .h))))))), 0, true⟩,
    ⟨(some (.i (.o (.o (.o (.i (.i .h))))))), none, .load false 1 (.s (.o (.o (.o (.o (.i (.i .h))))))), 0, true⟩,
    ⟨(some (.o (.i (.o (.o (.i (.i .h))))))), none, .nilc (.s (.i (.o (.o (.o (.i (.i .h))))))), 0, true⟩,
    ⟨(some (.i (.i (.o (.o (.i (.i .h))))))), none, .lea 9 (.s (.o (.i (.o (.o (.i (.i .h))))))), 0, true⟩,
    ⟨(some (.o (.o (.i (.o (.i (.i .h))))))), none, .load false 1 (.s (.i (.i (.o (.o (.i (.i .h))))))), 0, true⟩,
    ⟨(some (.i (.o (.i (.o (.i (.i .h))))))), none, .mkfn (.i (.o (.o (.i (.o .h))))) [(.s (.o .h))], 0, true⟩,
    ⟨(some (.o (.i (.i (.o (.i (.i .h))))))), none, .call (.o (.o (.o (.i (.o .h))))) [(.s (.o (.o (.i (.o (.i (.i .h))))))), (.s (.i (.o (.i (.o (.i (.i .h)))))))], 0, true⟩,
    ⟨(some (.o (.o (.o .h)))), none, .mov (.s (.o (.i (.i (.o (.i (.i .h))))))), 0, true⟩] 0)
   (.seq (.seq (.reg [⟨(some (.i (.i (.i (.o (.i (.i .h))))))), none, .load false 1 (.s (.o .h)), 0, true⟩,
    ⟨(some (.o (.o (.o (.i (.i (.i .h))))))), none, .mov (.s (.o (.o (.o .h)))), 0, true⟩,
    ⟨(some (.i (.o (.o (.i (.i (.i .h))))))), none, .bin .lss (.s (.o (.o (.o (.i (.i (.i .h))))))) (.c (.int .i64 0)), 0, true⟩,
    ⟨(some (.o (.i (.o (.i (.i (.i .h))))))), none, .nilc (.s (.i (.i (.i (.o (.i (.i .h))))))), 0, true⟩,
    ⟨(some (.i (.i (.o (.i (.i (.i .h))))))), none, .lea 4 (.s (.o (.i (.o (.i (.i (.i .h))))))), 0, true⟩,
    ⟨(some (.o (.o (.i (.i (.i (.i .h))))))), none, .lea 3 (.s (.i (.i (.o (.i (.i (.i .h))))))), 0, true⟩,
    ⟨none, none, .store 1 (.s (.o (.o (.i (.i (.i (.i .h))))))) (.s (.i (.o (.o (.i (.i (.i .h))))))), 0, true⟩] 0)
   (.seq (.reg [⟨(some (.i (.o (.i (.i (.i (.i .h))))))), none, .load false 1 (.s (.o .h)), 0, true⟩,
    ⟨(some (.o (.i (.i (.i (.i (.i .h))))))), none, .nilc (.s (.i (.o (.i (.i (.i (.i .h))))))), 0, true⟩,
    ⟨(some (.i (.i (.i (.i (.i (.i .h))))))), none, .lea 4 (.s (.o (.i (.i (.i (.i (.i .h))))))), 0, true⟩,
    ⟨(some (.o (.o (.o (.o (.o (.o (.o .h)))))))), none, .lea 3 (.s (.i (.i (.i (.i (.i (.i .h))))))), 0, true⟩,
    ⟨(some (.i (.o (.o (.o (.o (.o (.o .h)))))))), none, .load false 1 (.s (.o (.o (.o (.o (.o (.o (.o .h)))))))), 0, true⟩,
    ⟨(some (.o (.i (.o (.o (.o (.o (.o .h)))))))), none, .un .not (.s (.i (.o (.o (.o (.o (.o (.o .h)))))))), 0, true⟩] 0)
   (.cond (.s (.o (.i (.o (.o (.o (.o (.o .h))))))))
   (.reg [⟨(some (.i (.i (.o (.o (.o (.o (.o .h)))))))), none, .load false 1 (.s (.o .h)), 0, false⟩,
    ⟨(some (.o (.o (.i (.o (.o (.o (.o .h)))))))), none, .load false 1 (.s (.o .h)), 0, false⟩,
    ⟨(some (.i (.o (.i (.o (.o (.o (.o .h)))))))), none, .nilc (.s (.o (.o (.i (.o (.o (.o (.o .h)))))))), 0, false⟩,
    ⟨(some (.o (.i (.i (.o (.o (.o (.o .h)))))))), none, .lea 1 (.s (.i (.o (.i (.o (.o (.o (.o .h)))))))), 0, false⟩,
    ⟨(some (.i (.i (.i (.o (.o (.o (.o .h)))))))), none, .load false 1 (.s (.o (.i (.i (.o (.o (.o (.o .h)))))))), 0, false⟩,
    ⟨(some (.o (.o (.o (.i (.o (.o (.o .h)))))))), none, .nilc (.s (.i (.i (.i (.o (.o (.o (.o .h)))))))), 0, false⟩,
    ⟨(some (.i (.o (.o (.i (.o (.o (.o .h)))))))), none, .lea 9 (.s (.o (.o (.o (.i (.o (.o (.o .h)))))))), 0, false⟩,
    ⟨(some (.o (.i (.o (.i (.o (.o (.o .h)))))))), none, .load false 1 (.s (.i (.o (.o (.i (.o (.o (.o .h)))))))), 0, false⟩,
    ⟨(some (.i (.i (.o (.i (.o (.o (.o .h)))))))), none, .mov (.s (.o (.o (.o .h)))), 0, false⟩,
    ⟨(some (.o (.o (.i (.i (.o (.o (.o .h)))))))), none, .ixS 2 (.s (.o (.i (.o (.i (.o (.o (.o .h)))))))) (.s (.i (.i (.o (.i (.o (.o (.o .h)))))))), 0, false⟩,
    ⟨(some (.i (.o (.i (.i (.o (.o (.o .h)))))))), none, .lea 1 (.s (.o (.o (.i (.i (.o (.o (.o .h)))))))), 0, false⟩,
    ⟨(some (.o (.i (.i (.i (.o (.o (.o .h)))))))), none, .load false 1 (.s (.i (.o (.i (.i (.o (.o (.o .h)))))))), 0, false⟩,
    ⟨(some (.i (.i (.i (.i (.o (.o (.o .h)))))))), none, .nilc (.s (.i (.i (.o (.o (.o (.o (.o .h)))))))), 0, false⟩,
    ⟨(some (.o (.o (.o (.o (.i (.o (.o .h)))))))), none, .lea 4 (.s (.i (.i (.i (.i (.o (.o (.o .h)))))))), 0, false⟩,
    ⟨(some (.i (.o (.o (.o (.i (.o (.o .h)))))))), none, .lea 2 (.s (.o (.o (.o (.o (.i (.o (.o .h)))))))), 0, false⟩,
    ⟨none, none, .store 1 (.s (.i (.o (.o (.o (.i (.o (.o .h)))))))) (.s (.o (.i (.i (.i (.o (.o (.o .h)))))))), 0, false⟩] 0)
   .skip)))
   (.seq (.reg [⟨(some (.i .h)), none, .mov (.c (.int .i64 (-1))), 0, true⟩] 0)
   .ret)))))))) }

/-- (*halberd/hello.asking).proof -/
noncomputable def d23 : Go.AE.Fd := { np := 1, res := [.tmp (.i .h)], code :=
   (.seq (.reg [⟨(some (.i .h)), none, .mov (.c (.int .i64 0)), 0, true⟩] 0)
   (.seq (.seq (.reg [⟨(some (.o (.o .h))), none, .mov (.s .h), 0, true⟩,
    ⟨(some (.i (.o .h))), none, .nilc (.s (.o (.o .h))), 0, true⟩,
    ⟨(some (.o (.i .h))), none, .lea 4 (.s (.i (.o .h))), 0, true⟩,
    ⟨(some (.i (.i .h))), none, .lea 3 (.s (.o (.i .h))), 0, true⟩,
    ⟨(some (.o (.o (.o .h)))), none, .load false 1 (.s (.i (.i .h))), 0, true⟩] 0)
   (.cond (.s (.o (.o (.o .h))))
   (.seq (.reg [⟨(some (.i .h)), none, .mov (.c (.int .i64 (-1))), 0, true⟩] 0)
   .ret)
   .skip))
   (.seq (.seq (.reg [⟨(some (.i (.o (.o .h)))), none, .mov (.s .h), 0, true⟩,
    ⟨(some (.o (.i (.o .h)))), none, .nilc (.s (.i (.o (.o .h)))), 0, true⟩,
    ⟨(some (.i (.i (.o .h)))), none, .lea 1 (.s (.o (.i (.o .h)))), 0, true⟩,
    ⟨(some (.o (.o (.i .h)))), none, .load false 1 (.s (.i (.i (.o .h)))), 0, true⟩,
    ⟨(some (.i (.o (.i .h)))), none, .nilc (.s (.o (.o (.i .h)))), 0, true⟩,
    ⟨(some (.o (.i (.i .h)))), none, .lea 10 (.s (.i (.o (.i .h)))), 0, true⟩,
    ⟨(some (.i (.i (.i .h)))), none, .load false 1 (.s (.o (.i (.i .h)))), 0, true⟩,
    ⟨(some (.o (.o (.o (.o .h))))), none, .len (.s (.i (.i (.i .h)))), 0, true⟩,
    ⟨(some (.i (.o (.o (.o .h))))), none, .bin .gtr (.s (.o (.o (.o (.o .h))))) (.c (.int .i64 0)), 0, true⟩,
    ⟨(some (.o (.i (.o (.o .h))))), none, .mov (.s (.i (.o (.o (.o .h))))), 0, true⟩,
    ⟨(some (.i (.i (.o (.o .h))))), (some ((.o (.i (.o (.o .h)))), true)), .mov (.s .h), 0, true⟩,
    ⟨(some (.o (.o (.i (.o .h))))), (some ((.o (.i (.o (.o .h)))), true)), .nilc (.s (.i (.i (.o (.o .h))))), 0, true⟩,
    ⟨(some (.i (.o (.i (.o .h))))), (some ((.o (.i (.o (.o .h)))), true)), .lea 1 (.s (.o (.o (.i (.o .h))))), 0, true⟩,
    ⟨(some (.o (.i (.i (.o .h))))), (some ((.o (.i (.o (.o .h)))), true)), .load false 1 (.s (.i (.o (.i (.o .h))))), 0, true⟩,
    ⟨(some (.i (.i (.i (.o .h))))), (some ((.o (.i (.o (.o .h)))), true)), .nilc (.s (.o (.i (.i (.o .h))))), 0, true⟩,
    ⟨(some (.o (.o (.o (.i .h))))), (some ((.o (.i (.o (.o .h)))), true)), .lea 8 (.s (.i (.i (.i (.o .h))))), 0, true⟩,
    ⟨(some (.i (.o (.o (.i .h))))), (some ((.o (.i (.o (.o .h)))), true)), .load false 1 (.s (.o (.o (.o (.i .h))))), 0, true⟩,
    ⟨(some (.o (.i (.o (.i .h))))), (some ((.o (.i (.o (.o .h)))), true)), .len (.s (.i (.o (.o (.i .h))))), 0, true⟩,
    ⟨(some (.i (.i (.o (.i .h))))), (some ((.o (.i (.o (.o .h)))), true)), .bin .eql (.s (.o (.i (.o (.i .h))))) (.c (.int .i64 0)), 0, true⟩,
    ⟨(some (.o (.o (.i (.i .h))))), none, .pick (.s (.o (.i (.o (.o .h))))) (.s (.i (.i (.o (.i .h))))) (.c (.bool false)), 0, true⟩] 0)
   (.cond (.s (.o (.o (.i (.i .h)))))
   (.seq (.reg [⟨(some (.i .h)), none, .mov (.c (.int .i64 109)), 0, true⟩] 0)
   .ret)
   .skip))
   (.seq (.reg [⟨(some (.o (.i (.i (.i .h))))), none, .mov (.s .h), 0, false⟩,
    ⟨(some (.i (.i (.i (.i .h))))), none, .mov (.s .h), 0, false⟩,
    ⟨(some (.o (.o (.o (.o (.o .h)))))), none, .nilc (.s (.i (.i (.i (.i .h))))), 0, false⟩,
    ⟨(some (.i (.o (.o (.o (.o .h)))))), none, .lea 0 (.s (.o (.o (.o (.o (.o .h)))))), 0, false⟩,
    ⟨(some (.o (.i (.o (.o (.o .h)))))), none, .load false 1 (.s (.i (.o (.o (.o (.o .h)))))), 0, false⟩,
    ⟨(some (.i (.i (.o (.o (.o .h)))))), none, .mov (.s .h), 0, false⟩,
    ⟨(some (.o (.o (.i (.o (.o .h)))))), none, .nilc (.s (.i (.i (.o (.o (.o .h)))))), 0, false⟩,
    ⟨(some (.i (.o (.i (.o (.o .h)))))), none, .lea 1 (.s (.o (.o (.i (.o (.o .h)))))), 0, false⟩,
    ⟨(some (.o (.i (.i (.o (.o .h)))))), none, .load false 1 (.s (.i (.o (.i (.o (.o .h)))))), 0, false⟩,
    ⟨(some (.i (.i (.i (.o (.o .h)))))), none, .mov (.s .h), 0, false⟩,
    ⟨(some (.o (.o (.o (.i (.o .h)))))), none, .nilc (.s (.i (.i (.i (.o (.o .h)))))), 0, false⟩,
    ⟨(some (.i (.o (.o (.i (.o .h)))))), none, .lea 4 (.s (.o (.o (.o (.i (.o .h)))))), 0, false⟩,
    ⟨(some (.o (.i (.o (.i (.o .h)))))), none, .lea 0 (.s (.i (.o (.o (.i (.o .h)))))), 0, false⟩,
    ⟨(some (.i (.i (.o (.i (.o .h)))))), none, .load false 1 (.s (.o (.i (.o (.i (.o .h)))))), 0, false⟩,
    ⟨(some (.o (.o (.i (.i (.o .h)))))), none, .call (.o (.i (.o (.i (.o .h))))) [(.s (.o (.i (.o (.o (.o .h)))))), (.s (.o (.i (.i (.o (.o .h)))))), (.s (.i (.i (.o (.i (.o .h))))))], 0, false⟩,
    ⟨(some (.i (.o (.i (.i .h))))), none, .mov (.s (.o (.o (.i (.i (.o .h)))))), 0, false⟩,
    ⟨(some (.i (.o (.i (.i (.o .h)))))), none, .ext 0 (.s (.i (.o (.i (.i .h))))), 0, false⟩,
    ⟨(some (.o (.i (.i (.i (.o .h)))))), none, .ext 1 (.s (.i (.o (.i (.i .h))))), 0, false⟩,
    ⟨(some (.i (.i (.i (.i (.o .h)))))), none, .nilc (.s (.o (.i (.i (.i .h))))), 0, false⟩,
    ⟨(some (.o (.o (.o (.o (.i .h)))))), none, .lea 4 (.s (.i (.i (.i (.i (.o .h)))))), 0, false⟩,
    ⟨(some (.i (.o (.o (.o (.i .h)))))), none, .lea 4 (.s (.o (.o (.o (.o (.i .h)))))), 0, false⟩,
    ⟨none, none, .store 1 (.s (.i (.o (.o (.o (.i .h)))))) (.s (.o (.i (.i (.i (.o .h)))))), 0, false⟩] 48)
   (.seq (.block 0 (.seq (.reg [⟨(some (.i (.i (.o (.o (.i .h)))))), none, .mov (.s .h), 0, true⟩,
    ⟨(some (.o (.o (.i (.o (.i .h)))))), none, .nilc (.s (.i (.i (.o (.o (.i .h)))))), 0, true⟩,
    ⟨(some (.i (.o (.i (.o (.i .h)))))), none, .lea 4 (.s (.o (.o (.i (.o (.i .h)))))), 0, true⟩,
    ⟨(some (.o (.i (.i (.o (.i .h)))))), none, .lea 4 (.s (.i (.o (.i (.o (.i .h)))))), 0, true⟩,
    ⟨(some (.i (.i (.i (.o (.i .h)))))), none, .load false 1 (.s (.o (.i (.i (.o (.i .h)))))), 0, true⟩,
    ⟨(some (.o (.i (.o (.o (.i .h)))))), none, .mov (.s (.i (.i (.i (.o (.i .h)))))), 0, true⟩] 0)
   (.cond (.s (.o (.i (.o (.o (.i .h))))))
   (.seq (.reg [⟨(some (.i .h)), none, .mov (.c (.int .i64 (-1))), 0, true⟩] 0)
   .ret)
   (.seq (.reg [⟨(some (.i (.o (.o (.i (.i .h)))))), none, .mov (.s .h), 0, true⟩,
    ⟨(some (.o (.i (.o (.i (.i .h)))))), none, .nilc (.s (.i (.o (.o (.i (.i .h)))))), 0, true⟩,
    ⟨(some (.i (.i (.o (.i (.i .h)))))), none, .lea 1 (.s (.o (.i (.o (.i (.i .h)))))), 0, true⟩,
    ⟨(some (.o (.o (.i (.i (.i .h)))))), none, .load false 1 (.s (.i (.i (.o (.i (.i .h)))))), 0, true⟩,
    ⟨(some (.i (.o (.i (.i (.i .h)))))), none, .nilc (.s (.o (.o (.i (.i (.i .h)))))), 0, true⟩,
    ⟨(some (.o (.i (.i (.i (.i .h)))))), none, .lea 7 (.s (.i (.o (.i (.i (.i .h)))))), 0, true⟩,
    ⟨(some (.i (.i (.i (.i (.i .h)))))), none, .load false 1 (.s (.o (.i (.i (.i (.i .h)))))), 0, true⟩,
    ⟨(some (.o (.o (.o (.o (.o (.o .h))))))), none, .len (.s (.i (.i (.i (.i (.i .h)))))), 0, true⟩,
    ⟨(some (.i (.o (.o (.o (.o (.o .h))))))), none, .bin .eql (.s (.o (.o (.o (.o (.o (.o .h))))))) (.c (.int .i64 0)), 0, true⟩,
    ⟨(some (.o (.o (.o (.i (.i .h)))))), none, .mov (.s (.i (.o (.o (.o (.o (.o .h))))))), 0, true⟩] 0)
   (.cond (.s (.o (.o (.o (.i (.i .h))))))
   (.seq (.reg [⟨(some (.i .h)), none, .mov (.c (.int .i64 109)), 0, true⟩] 0)
   .ret)
   (.seq (.reg [⟨(some (.i (.i (.o (.o (.o (.o .h))))))), none, .mov (.s .h), 0, true⟩,
    ⟨(some (.o (.o (.i (.o (.o (.o .h))))))), none, .nilc (.s (.i (.i (.o (.o (.o (.o .h))))))), 0, true⟩,
    ⟨(some (.i (.o (.i (.o (.o (.o .h))))))), none, .lea 1 (.s (.o (.o (.i (.o (.o (.o .h))))))), 0, true⟩,
    ⟨(some (.o (.i (.i (.o (.o (.o .h))))))), none, .load false 1 (.s (.i (.o (.i (.o (.o (.o .h))))))), 0, true⟩,
    ⟨(some (.i (.i (.i (.o (.o (.o .h))))))), none, .nilc (.s (.o (.i (.i (.o (.o (.o .h))))))), 0, true⟩,
    ⟨(some (.o (.o (.o (.i (.o (.o .h))))))), none, .lea 7 (.s (.i (.i (.i (.o (.o (.o .h))))))), 0, true⟩,
    ⟨(some (.i (.o (.o (.i (.o (.o .h))))))), none, .load false 1 (.s (.o (.o (.o (.i (.o (.o .h))))))), 0, true⟩,
    ⟨(some (.o (.i (.o (.i (.o (.o .h))))))), none, .call (.i (.o (.i (.o (.o .h))))) [(.s (.i (.o (.o (.i (.o (.o .h))))))), (.c (.int .i64 1027))], 0, true⟩,
    ⟨(some (.i (.i (.o (.i (.o (.o .h))))))), none, .un .not (.s (.o (.i (.o (.i (.o (.o .h))))))), 0, true⟩,
    ⟨(some (.o (.i (.o (.o (.o (.o .h))))))), none, .mov (.s (.i (.i (.o (.i (.o (.o .h))))))), 0, true⟩] 0)
   (.cond (.s (.o (.i (.o (.o (.o (.o .h)))))))
   (.seq (.reg [⟨(some (.i .h)), none, .mov (.c (.int .i64 40)), 0, true⟩] 0)
   .ret)
   .skip)))))))
   (.seq (.reg [⟨(some (.i .h)), none, .mov (.c (.int .i64 (-1))), 0, true⟩] 0)
   .ret)))))) }

/-- halberd/halberdref19.Bits -/
noncomputable def d32 : Go.AE.Fd := { np := 1, res := [.tmp (.i .h), .tmp (.o (.o .h))], code :=
   (.seq (.reg [⟨(some (.i .h)), none, .mov (.c (.int .i64 0)), 0, true⟩,
    ⟨(some (.o (.o .h))), none, .mov (.c (.int .i64 0)), 0, true⟩] 0)
   (.seq (.reg [⟨(some (.i (.o (.o .h)))), none, .mov (.s .h), 0, true⟩,
    ⟨(some (.o (.i (.o .h)))), none, .call (.o (.i (.o (.o (.i .h))))) [(.s (.i (.o (.o .h))))], 0, true⟩,
    ⟨(some (.o (.o (.o .h)))), none, .mov (.s (.o (.i (.o .h)))), 0, true⟩,
    ⟨(some (.i (.i (.o .h)))), none, .ext 0 (.s (.o (.o (.o .h)))), 0, true⟩,
    ⟨(some (.o (.o (.i .h)))), none, .ext 1 (.s (.o (.o (.o .h)))), 0, true⟩,
    ⟨(some (.i (.o (.i .h)))), none, .ext 2 (.s (.o (.o (.o .h)))), 0, true⟩,
    ⟨(some (.i (.o .h))), none, .mov (.s (.i (.i (.o .h)))), 0, true⟩,
    ⟨(some (.o (.i .h))), none, .mov (.s (.o (.o (.i .h)))), 0, true⟩,
    ⟨(some (.i (.i .h))), none, .mov (.s (.i (.o (.i .h)))), 0, true⟩] 0)
   (.seq (.seq (.reg [⟨(some (.o (.i (.i .h)))), none, .mov (.s (.i (.i .h))), 0, true⟩,
    ⟨(some (.i (.i (.i .h)))), none, .bin .neq (.s (.o (.i (.i .h)))) (.c (.int .i64 0)), 0, true⟩] 0)
   (.cond (.s (.i (.i (.i .h))))
   (.seq (.reg [⟨(some (.i .h)), none, .mov (.c (.int .i64 0)), 0, true⟩,
    ⟨(some (.o (.o .h))), none, .mov (.c (.int .i64 1900)), 0, true⟩] 0)
   .ret)
   .skip))
   (.seq (.reg [⟨(some (.o (.o (.o (.o .h))))), none, .mov (.s (.o (.i .h))), 0, true⟩,
    ⟨(some (.i .h)), none, .mov (.s (.o (.o (.o (.o .h))))), 0, true⟩,
    ⟨(some (.o (.o .h))), none, .mov (.c (.int .i64 0)), 0, true⟩] 0)
   .ret)))) }

/-- halberd/halberdref4.GcmSeal -/
noncomputable def d33 : Go.AE.Fd := { np := 4, res := [.tmp (.i (.o (.o .h))), .tmp (.o (.i (.o .h)))], code :=
   (.seq (.reg [⟨(some (.i (.o (.o .h)))), none, .mov (.c (.str [])), 0, true⟩,
    ⟨(some (.o (.i (.o .h)))), none, .mov (.c (.int .i64 0)), 0, true⟩] 0)
   (.seq (.seq (.reg [⟨(some (.i (.o (.i .h)))), none, .mov (.s .h), 0, true⟩,
    ⟨(some (.o (.i (.i .h)))), none, .mov (.s (.o .h)), 0, true⟩,
    ⟨(some (.i (.i (.i .h)))), none, .mov (.s (.i .h)), 0, true⟩,
    ⟨(some (.o (.o (.o (.o .h))))), none, .mov (.s (.o (.o .h))), 0, true⟩,
    ⟨(some (.i (.o (.o (.o .h))))), none, .call (.i (.i (.o (.o (.i .h))))) [(.s (.i (.o (.i .h)))), (.s (.o (.i (.i .h)))), (.s (.i (.i (.i .h)))), (.s (.o (.o (.o (.o .h))))), (.c (.int .i64 0))], 0, true⟩,
    ⟨(some (.o (.i (.o (.o .h))))), none, .un .not (.s (.i (.o (.o (.o .h))))), 0, true⟩] 0)
   (.cond (.s (.o (.i (.o (.o .h)))))
   (.seq (.reg [⟨(some (.i (.o (.o .h)))), none, .mov (.c (.str [])), 0, true⟩,
    ⟨(some (.o (.i (.o .h)))), none, .mov (.c (.int .i64 500)), 0, true⟩] 0)
   .ret)
   .skip))
   (.seq (.reg [⟨(some (.i (.i (.o (.o .h))))), none, .mov (.s .h), 0, true⟩,
    ⟨(some (.o (.o (.i (.o .h))))), none, .call (.o (.o (.i (.o (.i .h))))) [(.s (.i (.i (.o (.o .h)))))], 0, true⟩,
    ⟨(some (.i (.i (.o .h)))), none, .mov (.s (.o (.o (.i (.o .h))))), 0, true⟩] 0)
   (.seq (.reg [⟨(some (.i (.o (.i (.o .h))))), none, .mov (.s (.i (.i (.o .h)))), 0, true⟩,
    ⟨(some (.o (.i (.i (.o .h))))), none, .mov (.s (.o .h)), 0, true⟩,
    ⟨(some (.i (.i (.i (.o .h))))), none, .mov (.s (.o (.o .h))), 0, true⟩,
    ⟨(some (.o (.o (.o (.i .h))))), none, .call (.i (.o (.i (.o (.i .h))))) [(.s (.i (.o (.i (.o .h))))), (.s (.o (.i (.i (.o .h))))), (.c (.int .i64 2)), (.s (.i (.i (.i (.o .h)))))], 0, true⟩,
    ⟨(some (.o (.o (.i .h)))), none, .mov (.s (.o (.o (.o (.i .h))))), 0, true⟩] 0)
   (.seq (.reg [⟨(some (.i (.o (.o (.i .h))))), none, .mov (.s (.o (.o (.i .h)))), 0, true⟩,
    ⟨(some (.o (.i (.o (.i .h))))), none, .mov (.s (.i (.i (.o .h)))), 0, true⟩,
    ⟨(some (.i (.i (.o (.i .h))))), none, .mov (.s (.o .h)), 0, true⟩,
    ⟨(some (.o (.o (.i (.i .h))))), none, .mov (.s (.i .h)), 0, true⟩,
    ⟨(some (.i (.o (.i (.i .h))))), none, .mov (.s (.o (.o (.i .h)))), 0, true⟩,
    ⟨(some (.o (.i (.i (.i .h))))), none, .call (.o (.i (.i (.o (.i .h))))) [(.s (.o (.i (.o (.i .h))))), (.s (.i (.i (.o (.i .h))))), (.s (.o (.o (.i (.i .h))))), (.s (.i (.o (.i (.i .h)))))], 0, true⟩,
    ⟨(some (.i (.i (.i (.i .h))))), none, .bin .add (.s (.i (.o (.o (.i .h))))) (.s (.o (.i (.i (.i .h))))), 0, true⟩,
    ⟨(some (.i (.o (.o .h)))), none, .mov (.s (.i (.i (.i (.i .h))))), 0, true⟩,
    ⟨(some (.o (.i (.o .h)))), none, .mov (.c (.int .i64 0)), 0, true⟩] 0)
   .ret))))) }

/-- halberd/halberdref1.Be -/
noncomputable def d34 : Go.AE.Fd := { np := 2, res := [.tmp (.i (.o .h))], code :=
   (.seq (.reg [⟨(some (.i (.o .h))), none, .mov (.c (.str [])), 0, true⟩] 0)
   (.seq (.reg [⟨(some (.o (.o (.o .h)))), none, .mov (.s (.o .h)), 0, true⟩,
    ⟨(some (.i (.o (.o .h)))), none, .mks 1 1 [(.int .u8 0)] (.s (.o (.o (.o .h)))) (.s (.o (.o (.o .h)))), 0, true⟩,
    ⟨(some (.o (.i .h))), none, .mov (.s (.i (.o (.o .h)))), 0, true⟩] 0)
   (.seq (.seq (.reg [⟨(some (.o (.i (.o .h)))), none, .mov (.s (.o .h)), 0, true⟩,
    ⟨(some (.i (.i (.o .h)))), none, .bin .sub (.s (.o (.i (.o .h)))) (.c (.int .i64 1)), 0, true⟩,
    ⟨(some (.i (.i .h))), none, .mov (.s (.i (.i (.o .h)))), 0, true⟩] 0)
   (.block 0 (.loop (.seq (.seq (.reg [⟨(some (.o (.o (.i .h)))), none, .mov (.s (.i (.i .h))), 0, true⟩,
    ⟨(some (.i (.o (.i .h)))), none, .bin .geq (.s (.o (.o (.i .h)))) (.c (.int .i64 0)), 0, true⟩] 0)
   (.cond (.s (.i (.o (.i .h))))
   .skip
   (.exit 0)))
   (.seq (.block 1 (.seq (.reg [⟨(some (.o (.o (.o (.o .h))))), none, .mov (.s (.o (.i .h))), 0, true⟩,
    ⟨(some (.i (.o (.o (.o .h))))), none, .mov (.s (.i (.i .h))), 0, true⟩,
    ⟨(some (.o (.i (.o (.o .h))))), none, .mov (.s .h), 0, true⟩,
    ⟨(some (.i (.i (.o (.o .h))))), none, .bin .and (.s (.o (.i (.o (.o .h))))) (.c (.int .i64 255)), 0, true⟩,
    ⟨(some (.o (.o (.i (.o .h))))), none, .conv .u8 (.s (.i (.i (.o (.o .h))))), 0, true⟩,
    ⟨(some (.i (.o (.i (.o .h))))), none, .ixS 1 (.s (.o (.o (.o (.o .h))))) (.s (.i (.o (.o (.o .h))))), 0, true⟩,
    ⟨none, none, .store 1 (.s (.i (.o (.i (.o .h))))) (.s (.o (.o (.i (.o .h))))), 0, true⟩] 0)
   (.reg [⟨(some (.o (.i (.i (.o .h))))), none, .mov (.s .h), 0, true⟩,
    ⟨(some (.i (.i (.i (.o .h))))), none, .bin .shr (.s (.o (.i (.i (.o .h))))) (.c (.int .u64 8)), 0, true⟩,
    ⟨(some .h), none, .mov (.s (.i (.i (.i (.o .h))))), 0, true⟩] 0)))
   (.reg [⟨(some (.o (.i (.i .h)))), none, .mov (.s (.i (.i .h))), 0, true⟩,
    ⟨(some (.i (.i (.i .h)))), none, .bin .sub (.s (.o (.i (.i .h)))) (.c (.int .i64 1)), 0, true⟩,
    ⟨(some (.i (.i .h))), none, .mov (.s (.i (.i (.i .h)))), 0, true⟩] 0))))))
   (.seq (.reg [⟨(some (.o (.o (.o (.i .h))))), none, .mov (.s (.o (.i .h))), 0, true⟩,
    ⟨(some (.i (.o (.o (.i .h))))), none, .b2s (.s (.o (.o (.o (.i .h))))), 0, true⟩,
    ⟨(some (.i (.o .h))), none, .mov (.s (.i (.o (.o (.i .h))))), 0, true⟩] 0)
   .ret)))) }

/-- halberd/hello.first -/
noncomputable def d35 : Go.AE.Fd := { np := 2, res := [.tmp (.i (.o .h)), .tmp (.o (.i .h))], code :=
   (.seq (.reg [⟨(some (.i (.o .h))), none, .mov (.c (.int .i64 0)), 0, true⟩,
    ⟨(some (.o (.i .h))), none, .mov (.c (.bool false)), 0, true⟩] 0)
   (.seq (.seq (.reg [⟨(some (.i (.o (.o .h)))), none, .mov (.s .h), 0, true⟩,
    ⟨(some (.o (.i (.o .h)))), none, .len (.s (.i (.o (.o .h)))), 0, true⟩,
    ⟨(some (.i (.i (.o .h)))), none, .mov (.c (.int .i64 0)), 0, true⟩] 0)
   (.block 0 (.loop (.seq (.reg [⟨(some (.o (.o (.i .h)))), none, .bin .lss (.s (.i (.i (.o .h)))) (.s (.o (.i (.o .h)))), 0, true⟩] 0)
   (.seq (.cond (.s (.o (.o (.i .h))))
   .skip
   (.exit 0))
   (.seq (.block 1 (.seq (.reg [⟨(some (.i (.o (.i .h)))), none, .ixS 1 (.s (.i (.o (.o .h)))) (.s (.i (.i (.o .h)))), 0, true⟩,
    ⟨(some (.o (.i (.i .h)))), none, .load false 1 (.s (.i (.o (.i .h)))), 0, true⟩,
    ⟨(some (.o (.o (.o .h)))), none, .mov (.s (.o (.i (.i .h)))), 0, true⟩] 0)
   (.seq (.reg [⟨(some (.i (.i (.i .h)))), none, .mov (.s (.o .h)), 0, true⟩,
    ⟨(some (.o (.o (.o (.o .h))))), none, .mov (.s (.o (.o (.o .h)))), 0, true⟩,
    ⟨(some (.i (.o (.o (.o .h))))), none, .call (.i (.o (.i (.o (.o .h))))) [(.s (.i (.i (.i .h)))), (.s (.o (.o (.o (.o .h)))))], 0, true⟩] 0)
   (.cond (.s (.i (.o (.o (.o .h)))))
   (.seq (.reg [⟨(some (.o (.i (.o (.o .h))))), none, .mov (.s (.o (.o (.o .h)))), 0, true⟩,
    ⟨(some (.i (.o .h))), none, .mov (.s (.o (.i (.o (.o .h))))), 0, true⟩,
    ⟨(some (.o (.i .h))), none, .mov (.c (.bool true)), 0, true⟩] 0)
   .ret)
   .skip))))
   (.reg [⟨(some (.i (.i (.o (.o .h))))), none, .bin .add (.s (.i (.i (.o .h)))) (.c (.int .i64 1)), 0, true⟩,
    ⟨(some (.i (.i (.o .h)))), none, .mov (.s (.i (.i (.o (.o .h))))), 0, true⟩] 0)))))))
   (.seq (.reg [⟨(some (.i (.o .h))), none, .mov (.c (.int .i64 0)), 0, true⟩,
    ⟨(some (.o (.i .h))), none, .mov (.c (.bool false)), 0, true⟩] 0)
   .ret))) }

/-- slices.ContainsFunc[[]halberd/api.Share,halberd/api.Share] -/
noncomputable def d37 : Go.AE.Fd := { np := 2, res := [.tmp (.i (.o .h))], code :=
   (.seq (.reg [⟨(some (.i (.o .h))), none, .mov (.c (.bool false)), 0, true⟩] 0)
   (.seq (.reg [⟨(some (.o (.i .h))), none, .mov (.s .h), 0, true⟩,
    ⟨(some (.i (.i .h))), none, .mov (.s (.o .h)), 0, true⟩,
    ⟨(some (.o (.o (.o .h)))), none, .call (.o (.o (.o (.i (.o .h))))) [(.s (.o (.i .h))), (.s (.i (.i .h)))], 0, true⟩,
    ⟨(some (.i (.o (.o .h)))), none, .bin .geq (.s (.o (.o (.o .h)))) (.c (.int .i64 0)), 0, true⟩,
    ⟨(some (.i (.o .h))), none, .mov (.s (.i (.o (.o .h)))), 0, true⟩] 0)
   .ret)) }

/-- (*halberd/hello.asking).shares$1 -/
noncomputable def d38 : Go.AE.Fd := { np := 2, res := [.tmp (.o (.o .h))], code :=
   (.seq (.reg [⟨(some (.i .h)), none, .box (.s .h), 0, true⟩,
    ⟨(some (.o (.o .h))), none, .mov (.c (.bool false)), 0, true⟩] 0)
   (.seq (.reg [⟨(some (.i (.o .h))), none, .lea 0 (.s (.i .h)), 0, true⟩,
    ⟨(some (.o (.i .h))), none, .load false 1 (.s (.i (.o .h))), 0, true⟩,
    ⟨(some (.i (.i .h))), none, .lea 0 (.s (.o .h)), 0, true⟩,
    ⟨(some (.o (.o (.o .h)))), none, .load false 1 (.s (.i (.i .h))), 0, true⟩,
    ⟨(some (.i (.o (.o .h)))), none, .bin .eql (.s (.o (.i .h))) (.s (.o (.o (.o .h)))), 0, true⟩,
    ⟨(some (.o (.o .h))), none, .mov (.s (.i (.o (.o .h)))), 0, true⟩] 0)
   .ret)) }

/-- slices.IndexFunc[[]halberd/api.Share,halberd/api.Share] -/
noncomputable def d39 : Go.AE.Fd := { np := 2, res := [.tmp (.i (.o .h))], code :=
   (.seq (.reg [⟨(some (.i (.o .h))), none, .mov (.c (.int .i64 0)), 0, true⟩] 0)
   (.seq (.seq (.reg [⟨(some (.i (.i .h))), none, .mov (.s .h), 0, true⟩,
    ⟨(some (.o (.o (.o .h)))), none, .len (.s (.i (.i .h))), 0, true⟩,
    ⟨(some (.i (.o (.o .h)))), none, .mov (.c (.int .i64 0)), 0, true⟩] 0)
   (.block 0 (.loop (.seq (.reg [⟨(some (.o (.i (.o .h)))), none, .bin .lss (.s (.i (.o (.o .h)))) (.s (.o (.o (.o .h)))), 0, true⟩] 0)
   (.seq (.cond (.s (.o (.i (.o .h))))
   .skip
   (.exit 0))
   (.seq (.block 1 (.seq (.reg [⟨(some (.i (.i (.o .h)))), none, .mov (.s (.i (.o (.o .h)))), 0, true⟩,
    ⟨(some (.o (.i .h))), none, .mov (.s (.i (.i (.o .h)))), 0, true⟩] 0)
   (.seq (.reg [⟨(some (.o (.o (.i .h)))), none, .mov (.s (.o .h)), 0, true⟩,
    ⟨(some (.i (.o (.i .h)))), none, .mov (.s .h), 0, true⟩,
    ⟨(some (.o (.i (.i .h)))), none, .mov (.s (.o (.i .h))), 0, true⟩,
    ⟨(some (.i (.i (.i .h)))), none, .ixS 2 (.s (.i (.o (.i .h)))) (.s (.o (.i (.i .h)))), 0, true⟩,
    ⟨(some (.o (.o (.o (.o .h))))), none, .load true 2 (.s (.i (.i (.i .h)))), 0, true⟩,
    ⟨(some (.i (.o (.o (.o .h))))), none, .callv (.s (.o (.o (.i .h)))) [(.s (.o (.o (.o (.o .h)))))], 0, true⟩] 0)
   (.cond (.s (.i (.o (.o (.o .h)))))
   (.seq (.reg [⟨(some (.o (.i (.o (.o .h))))), none, .mov (.s (.o (.i .h))), 0, true⟩,
    ⟨(some (.i (.o .h))), none, .mov (.s (.o (.i (.o (.o .h))))), 0, true⟩] 0)
   .ret)
   .skip))))
   (.reg [⟨(some (.i (.i (.o (.o .h))))), none, .bin .add (.s (.i (.o (.o .h)))) (.c (.int .i64 1)), 0, true⟩,
    ⟨(some (.i (.o (.o .h)))), none, .mov (.s (.i (.i (.o (.o .h))))), 0, true⟩] 0)))))))
   (.seq (.reg [⟨(some (.i (.o .h))), none, .mov (.c (.int .i64 (-1))), 0, true⟩] 0)
   .ret))) }

/-- (*halberd/hello.asking).shares$2 -/
noncomputable def d40 : Go.AE.Fd := { np := 2, res := [.tmp (.o (.o .h))], code :=
   (.seq (.reg [⟨(some (.i .h)), none, .box (.s .h), 0, true⟩,
    ⟨(some (.o (.o .h))), none, .mov (.c (.bool false)), 0, true⟩] 0)
   (.seq (.reg [⟨(some (.i (.o .h))), none, .lea 0 (.s (.i .h)), 0, false⟩,
    ⟨(some (.o (.i .h))), none, .load false 1 (.s (.i (.o .h))), 0, false⟩,
    ⟨(some (.i (.i .h))), none, .load false 1 (.s (.o .h)), 0, false⟩,
    ⟨(some (.o (.o (.o .h)))), none, .nilc (.s (.i (.i .h))), 0, false⟩,
    ⟨(some (.i (.o (.o .h)))), none, .lea 4 (.s (.o (.o (.o .h)))), 0, false⟩,
    ⟨(some (.o (.i (.o .h)))), none, .lea 1 (.s (.i (.o (.o .h)))), 0, false⟩,
    ⟨(some (.i (.i (.o .h)))), none, .load false 1 (.s (.o (.i (.o .h)))), 0, false⟩,
    ⟨(some (.o (.o (.i .h)))), none, .bin .eql (.s (.o (.i .h))) (.s (.i (.i (.o .h)))), 0, false⟩,
    ⟨(some (.o (.o .h))), none, .mov (.s (.o (.o (.i .h)))), 0, false⟩] 0)
   .ret)) }

/-- halberd/hello.Opened -/
noncomputable def d41 : Go.AE.Fd := { np := 3, res := [.cell (.i (.i .h)) true 4, .tmp (.o (.o (.o .h)))], code :=
   (.seq (.reg [⟨(some (.i (.i .h))), none, .alloc [(.int .i64 0), (.str []), (.int .i64 0), (.int .i64 0)], 0, true⟩,
    ⟨(some (.o (.o (.o .h)))), none, .mov (.c (.bool false)), 0, true⟩] 0)
   (.seq (.seq (.reg [⟨(some (.i (.i (.o .h)))), none, .mov (.s (.o .h)), 0, true⟩,
    ⟨(some (.o (.o (.i .h)))), none, .nilc (.s (.i (.i (.o .h)))), 0, true⟩,
    ⟨(some (.i (.o (.i .h)))), none, .lea 10 (.s (.o (.o (.i .h)))), 0, true⟩,
    ⟨(some (.o (.i (.i .h)))), none, .load false 1 (.s (.i (.o (.i .h)))), 0, true⟩,
    ⟨(some (.i (.i (.i .h)))), none, .len (.s (.o (.i (.i .h)))), 0, true⟩,
    ⟨(some (.o (.o (.o (.o .h))))), none, .bin .eql (.s (.i (.i (.i .h)))) (.c (.int .i64 0)), 0, true⟩,
    ⟨(some (.i (.o (.o (.o .h))))), none, .mov (.s (.o (.o (.o (.o .h))))), 0, true⟩,
    ⟨(some (.o (.i (.o (.o .h))))), (some ((.i (.o (.o (.o .h)))), false)), .mov (.s (.o .h)), 0, true⟩,
    ⟨(some (.i (.i (.o (.o .h))))), (some ((.i (.o (.o (.o .h)))), false)), .nilc (.s (.o (.i (.o (.o .h))))), 0, true⟩,
    ⟨(some (.o (.o (.i (.o .h))))), (some ((.i (.o (.o (.o .h)))), false)), .lea 8 (.s (.i (.i (.o (.o .h))))), 0, true⟩,
    ⟨(some (.i (.o (.i (.o .h))))), (some ((.i (.o (.o (.o .h)))), false)), .load false 1 (.s (.o (.o (.i (.o .h))))), 0, true⟩,
    ⟨(some (.o (.i (.i (.o .h))))), (some ((.i (.o (.o (.o .h)))), false)), .call (.i (.o (.i (.o (.o .h))))) [(.s (.i (.o (.i (.o .h))))), (.c (.int .i64 1))], 0, true⟩,
    ⟨(some (.i (.i (.i (.o .h))))), (some ((.i (.o (.o (.o .h)))), false)), .un .not (.s (.o (.i (.i (.o .h))))), 0, true⟩,
    ⟨(some (.o (.o (.o (.i .h))))), none, .pick (.s (.i (.o (.o (.o .h))))) (.c (.bool true)) (.s (.i (.i (.i (.o .h))))), 0, true⟩] 0)
   (.cond (.s (.o (.o (.o (.i .h)))))
   (.seq (.reg [⟨(some (.i (.o (.o (.i .h))))), none, .build [(.int .i64 0), (.str []), (.int .i64 0), (.int .i64 0)] [], 0, true⟩,
    ⟨none, none, .store 4 (.s (.i (.i .h))) (.s (.i (.o (.o (.i .h))))), 0, true⟩,
    ⟨(some (.o (.o (.o .h)))), none, .mov (.c (.bool false)), 0, true⟩] 0)
   .ret)
   .skip))
   (.seq (.reg [⟨(some (.i (.i (.o (.i .h))))), none, .mov (.s .h), 0, false⟩,
    ⟨(some (.o (.o (.i (.i .h))))), none, .nilc (.s (.i (.i (.o (.i .h))))), 0, false⟩,
    ⟨(some (.i (.o (.i (.i .h))))), none, .lea 8 (.s (.o (.o (.i (.i .h))))), 0, false⟩,
    ⟨(some (.o (.i (.i (.i .h))))), none, .load false 1 (.s (.i (.o (.i (.i .h))))), 0, false⟩,
    ⟨(some (.i (.i (.i (.i .h))))), none, .mov (.s (.o .h)), 0, false⟩,
    ⟨(some (.o (.o (.o (.o (.o .h)))))), none, .nilc (.s (.i (.i (.i (.i .h))))), 0, false⟩,
    ⟨(some (.i (.o (.o (.o (.o .h)))))), none, .lea 10 (.s (.o (.o (.o (.o (.o .h)))))), 0, false⟩,
    ⟨(some (.o (.i (.o (.o (.o .h)))))), none, .load false 1 (.s (.i (.o (.o (.o (.o .h)))))), 0, false⟩,
    ⟨(some (.i (.i (.o (.o (.o .h)))))), none, .ixS 2 (.s (.o (.i (.o (.o (.o .h)))))) (.c (.int .i64 0)), 0, false⟩,
    ⟨(some (.o (.o (.i (.o (.o .h)))))), none, .lea 0 (.s (.i (.i (.o (.o (.o .h)))))), 0, false⟩,
    ⟨(some (.i (.o (.i (.o (.o .h)))))), none, .load false 1 (.s (.o (.o (.i (.o (.o .h)))))), 0, false⟩,
    ⟨(some (.o (.i (.i (.o (.o .h)))))), none, .call (.o (.o (.o (.i (.i .h))))) [(.s (.o (.i (.i (.i .h))))), (.s (.i (.o (.i (.o (.o .h))))))], 0, false⟩,
    ⟨(some (.o (.i (.o (.i .h))))), none, .mov (.s (.o (.i (.i (.o (.o .h)))))), 0, false⟩,
    ⟨(some (.i (.i (.i (.o (.o .h)))))), none, .ext 0 (.s (.o (.i (.o (.i .h))))), 0, false⟩,
    ⟨(some (.o (.o (.o (.i (.o .h)))))), none, .ext 1 (.s (.o (.i (.o (.i .h))))), 0, false⟩,
    ⟨(some (.i (.o (.o .h)))), none, .alloc [(.int .i64 0), (.str []), (.int .i64 0), (.int .i64 0)], 0, false⟩,
    ⟨none, none, .store 4 (.s (.i (.o (.o .h)))) (.s (.i (.i (.i (.o (.o .h)))))), 0, false⟩,
    ⟨(some (.o (.i (.o .h)))), none, .mov (.s (.o (.o (.o (.i (.o .h)))))), 0, false⟩] 1)
   (.seq .bad
   .ret)))) }

/-- halberd/pcurve.Scalar -/
noncomputable def d43 : Go.AE.Fd := { np := 1, res := [.cell (.i .h) true 4, .tmp (.o (.o .h))], code :=
   (.seq (.reg [⟨(some (.i .h)), none, .alloc [(.int .u64 0), (.int .u64 0), (.int .u64 0), (.int .u64 0)], 0, true⟩,
    ⟨(some (.o (.o .h))), none, .mov (.c (.bool false)), 0, true⟩] 0)
   (.seq (.reg [⟨(some (.o (.o (.o .h)))), none, .call (.i (.o (.o (.i (.i .h))))) [(.c (.int .i64 1))], 0, true⟩,
    ⟨(some (.i (.o (.o .h)))), none, .mov (.s .h), 0, true⟩,
    ⟨(some (.o (.i (.o .h)))), none, .call (.o (.i (.o (.i (.i .h))))) [(.s (.o (.o (.o .h)))), (.s (.i (.o (.o .h))))], 0, true⟩,
    ⟨(some (.i (.i .h))), none, .mov (.s (.o (.i (.o .h)))), 0, true⟩,
    ⟨(some (.i (.i (.o .h)))), none, .ext 0 (.s (.i (.i .h))), 0, true⟩,
    ⟨(some (.o (.o (.i .h)))), none, .ext 1 (.s (.i (.i .h))), 0, true⟩,
    ⟨(some (.i (.o .h))), none, .alloc [(.int .u64 0), (.int .u64 0), (.int .u64 0), (.int .u64 0)], 0, true⟩,
    ⟨none, none, .store 4 (.s (.i (.o .h))) (.s (.i (.i (.o .h)))), 0, true⟩,
    ⟨(some (.o (.i .h))), none, .mov (.s (.o (.o (.i .h)))), 0, true⟩] 0)
   (.seq (.reg [⟨(some (.i (.o (.i .h)))), none, .load true 4 (.s (.i (.o .h))), 0, false⟩,
    ⟨(some (.o (.i (.i .h)))), none, .mov (.s (.o (.i .h))), 0, false⟩,
    ⟨(some (.i (.i (.i .h)))), none, .mov (.s (.o (.i (.i .h)))), 0, false⟩,
    ⟨(some (.o (.o (.o (.o .h))))), (some ((.i (.i (.i .h))), true)), .load true 4 (.s (.i (.o .h))), 0, false⟩,
    ⟨(some (.i (.o (.o (.o .h))))), (some ((.i (.i (.i .h))), true)), .call (.i (.i (.o (.i (.i .h))))) [(.s (.o (.o (.o (.o .h)))))], 0, false⟩,
    ⟨(some (.o (.i (.o (.o .h))))), (some ((.i (.i (.i .h))), true)), .un .not (.s (.i (.o (.o (.o .h))))), 0, false⟩,
    ⟨(some (.i (.i (.o (.o .h))))), none, .pick (.s (.i (.i (.i .h)))) (.s (.o (.i (.o (.o .h))))) (.c (.bool false)), 0, false⟩,
    ⟨none, none, .store 4 (.s (.i .h)) (.s (.i (.o (.i .h)))), 0, false⟩,
    ⟨(some (.o (.o .h))), none, .mov (.s (.i (.i (.o (.o .h))))), 0, false⟩] 0)
   .ret))) }

/-- halberd/halberdref4.Sizes -/
noncomputable def d49 : Go.AE.Fd := { np := 1, res := [.tmp (.i .h), .tmp (.o (.o .h)), .tmp (.i (.o .h))], code :=
   (.seq (.reg [⟨(some (.i .h)), none, .mov (.c (.int .i64 0)), 0, true⟩,
    ⟨(some (.o (.o .h))), none, .mov (.c (.int .i64 0)), 0, true⟩,
    ⟨(some (.i (.o .h))), none, .mov (.c (.int .i64 0)), 0, true⟩] 0)
   (.seq (.seq (.reg [⟨(some (.o (.i .h))), none, .mov (.s .h), 0, true⟩] 0)
   (.block 0 (.seq (.reg [⟨(some (.o (.o (.o .h)))), none, .bin .eql (.s (.o (.i .h))) (.c (.int .i64 4865)), 0, true⟩,
    ⟨(some (.i (.i .h))), none, .mov (.s (.o (.o (.o .h)))), 0, true⟩] 0)
   (.cond (.s (.i (.i .h)))
   (.seq (.reg [⟨(some (.i .h)), none, .mov (.c (.int .i64 16)), 0, true⟩,
    ⟨(some (.o (.o .h))), none, .mov (.c (.int .i64 256)), 0, true⟩,
    ⟨(some (.i (.o .h))), none, .mov (.c (.int .i64 0)), 0, true⟩] 0)
   .ret)
   (.seq (.reg [⟨(some (.o (.i (.o .h)))), none, .bin .eql (.s (.o (.i .h))) (.c (.int .i64 4866)), 0, true⟩,
    ⟨(some (.i (.o (.o .h)))), none, .mov (.s (.o (.i (.o .h)))), 0, true⟩] 0)
   (.cond (.s (.i (.o (.o .h))))
   (.seq (.reg [⟨(some (.i .h)), none, .mov (.c (.int .i64 32)), 0, true⟩,
    ⟨(some (.o (.o .h))), none, .mov (.c (.int .i64 384)), 0, true⟩,
    ⟨(some (.i (.o .h))), none, .mov (.c (.int .i64 0)), 0, true⟩] 0)
   .ret)
   (.seq (.reg [⟨(some (.o (.o (.i .h)))), none, .bin .eql (.s (.o (.i .h))) (.c (.int .i64 4867)), 0, true⟩,
    ⟨(some (.i (.i (.o .h)))), none, .mov (.s (.o (.o (.i .h)))), 0, true⟩] 0)
   (.cond (.s (.i (.i (.o .h))))
   (.seq (.reg [⟨(some (.i .h)), none, .mov (.c (.int .i64 32)), 0, true⟩,
    ⟨(some (.o (.o .h))), none, .mov (.c (.int .i64 256)), 0, true⟩,
    ⟨(some (.i (.o .h))), none, .mov (.c (.int .i64 0)), 0, true⟩] 0)
   .ret)
   .skip))))))))
   (.seq (.reg [⟨(some (.i .h)), none, .mov (.c (.int .i64 0)), 0, true⟩,
    ⟨(some (.o (.o .h))), none, .mov (.c (.int .i64 0)), 0, true⟩,
    ⟨(some (.i (.o .h))), none, .mov (.c (.int .i64 800)), 0, true⟩] 0)
   .ret))) }

/-- halberd/halberdref4.gcmMay -/
noncomputable def d50 : Go.AE.Fd := { np := 5, res := [.tmp (.i (.i (.o .h)))], code :=
   (.seq (.reg [⟨(some (.i (.i (.o .h)))), none, .mov (.c (.bool false)), 0, true⟩] 0)
   (.seq (.reg [⟨(some (.o (.o (.i .h)))), none, .mov (.s .h), 0, true⟩,
    ⟨(some (.i (.o (.i .h)))), none, .lenS (.s (.o (.o (.i .h)))), 0, true⟩,
    ⟨(some (.o (.i (.i .h)))), none, .bin .eql (.s (.i (.o (.i .h)))) (.c (.int .i64 16)), 0, true⟩,
    ⟨(some (.i (.i (.i .h)))), none, .mov (.s (.o (.i (.i .h)))), 0, true⟩,
    ⟨(some (.o (.o (.o (.o .h))))), (some ((.i (.i (.i .h))), false)), .mov (.s .h), 0, true⟩,
    ⟨(some (.i (.o (.o (.o .h))))), (some ((.i (.i (.i .h))), false)), .lenS (.s (.o (.o (.o (.o .h))))), 0, true⟩,
    ⟨(some (.o (.i (.o (.o .h))))), (some ((.i (.i (.i .h))), false)), .bin .eql (.s (.i (.o (.o (.o .h))))) (.c (.int .i64 32)), 0, true⟩,
    ⟨(some (.i (.i (.o (.o .h))))), none, .pick (.s (.i (.i (.i .h)))) (.c (.bool true)) (.s (.o (.i (.o (.o .h))))), 0, true⟩,
    ⟨(some (.o (.o (.i (.o .h))))), none, .mov (.s (.i (.i (.o (.o .h))))), 0, true⟩,
    ⟨(some (.i (.o (.i (.o .h))))), (some ((.o (.o (.i (.o .h)))), true)), .mov (.s (.o .h)), 0, true⟩,
    ⟨(some (.o (.i (.i (.o .h))))), (some ((.o (.o (.i (.o .h)))), true)), .lenS (.s (.i (.o (.i (.o .h))))), 0, true⟩,
    ⟨(some (.i (.i (.i (.o .h))))), (some ((.o (.o (.i (.o .h)))), true)), .bin .eql (.s (.o (.i (.i (.o .h))))) (.c (.int .i64 12)), 0, true⟩,
    ⟨(some (.o (.o (.o (.i .h))))), none, .pick (.s (.o (.o (.i (.o .h))))) (.s (.i (.i (.i (.o .h))))) (.c (.bool false)), 0, true⟩,
    ⟨(some (.i (.o (.o (.i .h))))), none, .mov (.s (.o (.o (.o (.i .h))))), 0, true⟩,
    ⟨(some (.o (.i (.o (.i .h))))), (some ((.i (.o (.o (.i .h)))), true)), .mov (.s (.i .h)), 0, true⟩,
    ⟨(some (.i (.i (.o (.i .h))))), (some ((.i (.o (.o (.i .h)))), true)), .lenS (.s (.o (.i (.o (.i .h))))), 0, true⟩,
    ⟨(some (.o (.o (.i (.i .h))))), (some ((.i (.o (.o (.i .h)))), true)), .bin .leq (.s (.i (.i (.o (.i .h))))) (.c (.int .i64 65536)), 0, true⟩,
    ⟨(some (.i (.o (.i (.i .h))))), none, .pick (.s (.i (.o (.o (.i .h))))) (.s (.o (.o (.i (.i .h))))) (.c (.bool false)), 0, true⟩,
    ⟨(some (.o (.i (.i (.i .h))))), none, .mov (.s (.i (.o (.i (.i .h))))), 0, true⟩,
    ⟨(some (.i (.i (.i (.i .h))))), (some ((.o (.i (.i (.i .h)))), true)), .mov (.s (.o (.o .h))), 0, true⟩,
    ⟨(some (.o (.o (.o (.o (.o .h)))))), (some ((.o (.i (.i (.i .h)))), true)), .lenS (.s (.i (.i (.i (.i .h))))), 0, true⟩,
    ⟨(some (.i (.o (.o (.o (.o .h)))))), (some ((.o (.i (.i (.i .h)))), true)), .mov (.s (.i (.o .h))), 0, true⟩,
    ⟨(some (.o (.i (.o (.o (.o .h)))))), (some ((.o (.i (.i (.i .h)))), true)), .bin .add (.c (.int .i64 65536)) (.s (.i (.o (.o (.o (.o .h)))))), 0, true⟩,
    ⟨(some (.i (.i (.o (.o (.o .h)))))), (some ((.o (.i (.i (.i .h)))), true)), .bin .leq (.s (.o (.o (.o (.o (.o .h)))))) (.s (.o (.i (.o (.o (.o .h)))))), 0, true⟩,
    ⟨(some (.o (.o (.i (.o (.o .h)))))), none, .pick (.s (.o (.i (.i (.i .h))))) (.s (.i (.i (.o (.o (.o .h)))))) (.c (.bool false)), 0, true⟩,
    ⟨(some (.i (.i (.o .h)))), none, .mov (.s (.o (.o (.i (.o (.o .h)))))), 0, true⟩] 0)
   .ret)) }

/-- halberd/halberdref4.schedule -/
noncomputable def d51 : Go.AE.Fd := { np := 1, res := [.tmp (.i .h)], code :=
   (.seq (.reg [⟨(some (.i .h)), none, .mov (.c .nils), 0, true⟩] 0)
   (.seq (.reg [⟨(some (.i (.i (.o .h)))), none, .mov (.s .h), 0, true⟩,
    ⟨(some (.o (.o (.i .h)))), none, .lenS (.s (.i (.i (.o .h)))), 0, true⟩,
    ⟨(some (.i (.o (.i .h)))), none, .bin .quo (.s (.o (.o (.i .h)))) (.c (.int .i64 4)), 0, true⟩,
    ⟨(some (.o (.o .h))), none, .mov (.s (.i (.o (.i .h)))), 0, true⟩] 0)
   (.seq (.reg [⟨(some (.i (.o .h))), none, .mov (.c .nils), 0, true⟩] 0)
   (.seq (.seq (.reg [⟨(some (.o (.i .h))), none, .mov (.c (.int .i64 0)), 0, true⟩] 0)
   (.block 0 (.loop (.seq (.seq (.reg [⟨(some (.o (.i (.i .h)))), none, .mov (.s (.o (.i .h))), 0, true⟩,
    ⟨(some (.i (.i (.i .h)))), none, .mov (.s (.o (.o .h))), 0, true⟩,
    ⟨(some (.o (.o (.o (.o .h))))), none, .bin .lss (.s (.o (.i (.i .h)))) (.s (.i (.i (.i .h)))), 0, true⟩] 0)
   (.cond (.s (.o (.o (.o (.o .h)))))
   .skip
   (.exit 0)))
   (.seq (.block 1 (.reg [⟨(some (.i (.i (.o (.o .h))))), none, .mov (.s (.i (.o .h))), 0, false⟩,
    ⟨(some (.o (.o (.i (.o .h))))), none, .mov (.s .h), 0, false⟩,
    ⟨(some (.i (.o (.i (.o .h))))), none, .mov (.s (.o (.i .h))), 0, false⟩,
    ⟨(some (.o (.i (.i (.o .h))))), none, .bin .mul (.c (.int .i64 4)) (.s (.i (.o (.i (.o .h))))), 0, false⟩,
    ⟨(some (.i (.i (.i (.o .h))))), none, .ixStr (.s (.o (.o (.i (.o .h))))) (.s (.o (.i (.i (.o .h))))), 0, false⟩,
    ⟨(some (.o (.o (.o (.i .h))))), none, .mov (.s .h), 0, false⟩,
    ⟨(some (.i (.o (.o (.i .h))))), none, .mov (.s (.o (.i .h))), 0, false⟩,
    ⟨(some (.o (.i (.o (.i .h))))), none, .bin .mul (.c (.int .i64 4)) (.s (.i (.o (.o (.i .h))))), 0, false⟩,
    ⟨(some (.i (.i (.o (.i .h))))), none, .bin .add (.s (.o (.i (.o (.i .h))))) (.c (.int .i64 1)), 0, false⟩,
    ⟨(some (.o (.o (.i (.i .h))))), none, .ixStr (.s (.o (.o (.o (.i .h))))) (.s (.i (.i (.o (.i .h))))), 0, false⟩,
    ⟨(some (.i (.o (.i (.i .h))))), none, .mov (.s .h), 0, false⟩,
    ⟨(some (.o (.i (.i (.i .h))))), none, .mov (.s (.o (.i .h))), 0, false⟩,
    ⟨(some (.i (.i (.i (.i .h))))), none, .bin .mul (.c (.int .i64 4)) (.s (.o (.i (.i (.i .h))))), 0, false⟩,
    ⟨(some (.o (.o (.o (.o (.o .h)))))), none, .bin .add (.s (.i (.i (.i (.i .h))))) (.c (.int .i64 2)), 0, false⟩,
    ⟨(some (.i (.o (.o (.o (.o .h)))))), none, .ixStr (.s (.i (.o (.i (.i .h))))) (.s (.o (.o (.o (.o (.o .h)))))), 0, false⟩,
    ⟨(some (.o (.i (.o (.o (.o .h)))))), none, .mov (.s .h), 0, false⟩,
    ⟨(some (.i (.i (.o (.o (.o .h)))))), none, .mov (.s (.o (.i .h))), 0, false⟩,
    ⟨(some (.o (.o (.i (.o (.o .h)))))), none, .bin .mul (.c (.int .i64 4)) (.s (.i (.i (.o (.o (.o .h)))))), 0, false⟩,
    ⟨(some (.i (.o (.i (.o (.o .h)))))), none, .bin .add (.s (.o (.o (.i (.o (.o .h)))))) (.c (.int .i64 3)), 0, false⟩,
    ⟨(some (.o (.i (.i (.o (.o .h)))))), none, .ixStr (.s (.o (.i (.o (.o (.o .h)))))) (.s (.i (.o (.i (.o (.o .h)))))), 0, false⟩,
    ⟨(some (.i (.i (.i (.o (.o .h)))))), none, .build [(.int .u8 0), (.int .u8 0), (.int .u8 0), (.int .u8 0)] [(0, 1, (.s (.i (.i (.i (.o .h)))))), (1, 1, (.s (.o (.o (.i (.i .h)))))), (2, 1, (.s (.i (.o (.o (.o (.o .h))))))), (3, 1, (.s (.o (.i (.i (.o (.o .h)))))))], 0, false⟩,
    ⟨(some (.o (.o (.o (.i (.o .h)))))), none, .bsl 4 1 [(.int .u8 0), (.int .u8 0), (.int .u8 0), (.int .u8 0)] [(0, 4, (.s (.i (.i (.i (.o (.o .h)))))))], 0, false⟩,
    ⟨(some (.i (.o (.o (.i (.o .h)))))), none, .app 4 4 (.s (.i (.i (.o (.o .h))))) (.s (.o (.o (.o (.i (.o .h)))))), 1, false⟩,
    ⟨(some (.i (.o .h))), none, .mov (.s (.i (.o (.o (.i (.o .h)))))), 0, false⟩] 2))
   (.reg [⟨(some (.i (.o (.o (.o .h))))), none, .mov (.s (.o (.i .h))), 0, true⟩,
    ⟨(some (.o (.i (.o (.o .h))))), none, .bin .add (.s (.i (.o (.o (.o .h))))) (.c (.int .i64 1)), 0, true⟩,
    ⟨(some (.o (.i .h))), none, .mov (.s (.o (.i (.o (.o .h))))), 0, true⟩] 0))))))
   (.seq (.reg [⟨(some (.i (.i .h))), none, .mov (.c (.int .u8 1)), 0, true⟩] 0)
   (.seq (.seq (.reg [⟨(some (.o (.i (.o (.i (.o .h)))))), none, .mov (.s (.o (.o .h))), 0, true⟩,
    ⟨(some (.o (.o (.o .h)))), none, .mov (.s (.o (.i (.o (.i (.o .h)))))), 0, true⟩] 0)
   (.block 2 (.loop (.seq (.seq (.reg [⟨(some (.i (.i (.o (.i (.o .h)))))), none, .mov (.s (.o (.o (.o .h)))), 0, true⟩,
    ⟨(some (.o (.o (.i (.i (.o .h)))))), none, .mov (.s (.o (.o .h))), 0, true⟩,
    ⟨(some (.i (.o (.i (.i (.o .h)))))), none, .bin .add (.s (.o (.o (.i (.i (.o .h)))))) (.c (.int .i64 7)), 0, true⟩,
    ⟨(some (.o (.i (.i (.i (.o .h)))))), none, .bin .mul (.c (.int .i64 4)) (.s (.i (.o (.i (.i (.o .h)))))), 0, true⟩,
    ⟨(some (.i (.i (.i (.i (.o .h)))))), none, .bin .lss (.s (.i (.i (.o (.i (.o .h)))))) (.s (.o (.i (.i (.i (.o .h)))))), 0, true⟩] 0)
   (.cond (.s (.i (.i (.i (.i (.o .h))))))
   .skip
   (.exit 2)))
   (.seq (.block 3 (.seq (.reg [⟨(some (.o (.i (.o (.o (.i .h)))))), none, .mov (.s (.i (.o .h))), 0, true⟩,
    ⟨(some (.i (.i (.o (.o (.i .h)))))), none, .mov (.s (.o (.o (.o .h)))), 0, true⟩,
    ⟨(some (.o (.o (.i (.o (.i .h)))))), none, .bin .sub (.s (.i (.i (.o (.o (.i .h)))))) (.c (.int .i64 1)), 0, true⟩,
    ⟨(some (.i (.o (.i (.o (.i .h)))))), none, .ixS 4 (.s (.o (.i (.o (.o (.i .h)))))) (.s (.o (.o (.i (.o (.i .h)))))), 0, true⟩,
    ⟨(some (.o (.i (.i (.o (.i .h)))))), none, .load true 4 (.s (.i (.o (.i (.o (.i .h)))))), 0, true⟩,
    ⟨(some (.i (.o (.o .h)))), none, .alloc [(.int .u8 0), (.int .u8 0), (.int .u8 0), (.int .u8 0)], 0, true⟩,
    ⟨none, none, .store 4 (.s (.i (.o (.o .h)))) (.s (.o (.i (.i (.o (.i .h)))))), 0, true⟩] 0)
   (.seq (.block 4 (.seq (.reg [⟨(some (.o (.o (.o (.i (.i .h)))))), none, .mov (.s (.o (.o (.o .h)))), 0, true⟩,
    ⟨(some (.i (.o (.o (.i (.i .h)))))), none, .mov (.s (.o (.o .h))), 0, true⟩,
    ⟨(some (.o (.i (.o (.i (.i .h)))))), none, .bin .rem (.s (.o (.o (.o (.i (.i .h)))))) (.s (.i (.o (.o (.i (.i .h)))))), 0, true⟩,
    ⟨(some (.i (.i (.o (.i (.i .h)))))), none, .bin .eql (.s (.o (.i (.o (.i (.i .h)))))) (.c (.int .i64 0)), 0, true⟩,
    ⟨(some (.i (.i (.i (.o (.i .h)))))), none, .mov (.s (.i (.i (.o (.i (.i .h)))))), 0, true⟩] 0)
   (.cond (.s (.i (.i (.i (.o (.i .h))))))
   (.seq (.reg [⟨(some (.o (.o (.i (.i (.i .h)))))), none, .ixA 4 1 (.s (.i (.o (.o .h)))) (.c (.int .i64 1)), 0, false⟩,
    ⟨(some (.i (.o (.i (.i (.i .h)))))), none, .load false 1 (.s (.o (.o (.i (.i (.i .h)))))), 0, false⟩,
    ⟨(some (.o (.i (.i (.i (.i .h)))))), none, .ixStr (.c (.str [99, 124, 119, 123, 242, 107, 111, 197, 48, 1, 103, 43, 254, 215, 171, 118, 202, 130, 201, 125, 250, 89, 71, 240, 173, 212, 162, 175, 156, 164, 114, 192, 183, 253, 147, 38, 54, 63, 247, 204, 52, 165, 229, 241, 113, 216, 49, 21, 4, 199, 35, 195, 24, 150, 5, 154, 7, 18, 128, 226, 235, 39, 178, 117, 9, 131, 44, 26, 27, 110, 90, 160, 82, 59, 214, 179, 41, 227, 47, 132, 83, 209, 0, 237, 32, 252, 177, 91, 106, 203, 190, 57, 74, 76, 88, 207, 208, 239, 170, 251, 67, 77, 51, 133, 69, 249, 2, 127, 80, 60, 159, 168, 81, 163, 64, 143, 146, 157, 56, 245, 188, 182, 218, 33, 16, 255, 243, 210, 205, 12, 19, 236, 95, 151, 68, 23, 196, 167, 126, 61, 100, 93, 25, 115, 96, 129, 79, 220, 34, 42, 144, 136, 70, 238, 184, 20, 222, 94, 11, 219, 224, 50, 58, 10, 73, 6, 36, 92, 194, 211, 172, 98, 145, 149, 228, 121, 231, 200, 55, 109, 141, 213, 78, 169, 108, 86, 244, 234, 101, 122, 174, 8, 186, 120, 37, 46, 28, 166, 180, 198, 232, 221, 116, 31, 75, 189, 139, 138, 112, 62, 181, 102, 72, 3, 246, 14, 97, 53, 87, 185, 134, 193, 29, 158, 225, 248, 152, 17, 105, 217, 142, 148, 155, 30, 135, 233, 206, 85, 40, 223, 140, 161, 137, 13, 191, 230, 66, 104, 65, 153, 45, 15, 176, 84, 187, 22])) (.s (.i (.o (.i (.i (.i .h)))))), 0, false⟩,
    ⟨(some (.i (.i (.i (.i (.i .h)))))), none, .mov (.s (.i (.i .h))), 0, false⟩,
    ⟨(some (.o (.o (.o (.o (.o (.o .h))))))), none, .bin .xor (.s (.o (.i (.i (.i (.i .h)))))) (.s (.i (.i (.i (.i (.i .h)))))), 0, false⟩,
    ⟨(some (.i (.o (.o (.o (.o (.o .h))))))), none, .ixA 4 1 (.s (.i (.o (.o .h)))) (.c (.int .i64 2)), 0, false⟩,
    ⟨(some (.o (.i (.o (.o (.o (.o .h))))))), none, .load false 1 (.s (.i (.o (.o (.o (.o (.o .h))))))), 0, false⟩,
    ⟨(some (.i (.i (.o (.o (.o (.o .h))))))), none, .ixStr (.c (.str [99, 124, 119, 123, 242, 107, 111, 197, 48, 1, 103, 43, 254, 215, 171, 118, 202, 130, 201, 125, 250, 89, 71, 240, 173, 212, 162, 175, 156, 164, 114, 192, 183, 253, 147, 38, 54, 63, 247, 204, 52, 165, 229, 241, 113, 216, 49, 21, 4, 199, 35, 195, 24, 150, 5, 154, 7, 18, 128, 226, 235, 39, 178, 117, 9, 131, 44, 26, 27, 110, 90, 160, 82, 59, 214, 179, 41, 227, 47, 132, 83, 209, 0, 237, 32, 252, 177, 91, 106, 203, 190, 57, 74, 76, 88, 207, 208, 239, 170, 251, 67, 77, 51, 133, 69, 249, 2, 127, 80, 60, 159, 168, 81, 163, 64, 143, 146, 157, 56, 245, 188, 182, 218, 33, 16, 255, 243, 210, 205, 12, 19, 236, 95, 151, 68, 23, 196, 167, 126, 61, 100, 93, 25, 115, 96, 129, 79, 220, 34, 42, 144, 136, 70, 238, 184, 20, 222, 94, 11, 219, 224, 50, 58, 10, 73, 6, 36, 92, 194, 211, 172, 98, 145, 149, 228, 121, 231, 200, 55, 109, 141, 213, 78, 169, 108, 86, 244, 234, 101, 122, 174, 8, 186, 120, 37, 46, 28, 166, 180, 198, 232, 221, 116, 31, 75, 189, 139, 138, 112, 62, 181, 102, 72, 3, 246, 14, 97, 53, 87, 185, 134, 193, 29, 158, 225, 248, 152, 17, 105, 217, 142, 148, 155, 30, 135, 233, 206, 85, 40, 223, 140, 161, 137, 13, 191, 230, 66, 104, 65, 153, 45, 15, 176, 84, 187, 22])) (.s (.o (.i (.o (.o (.o (.o .h))))))), 0, false⟩,
    ⟨(some (.o (.o (.i (.o (.o (.o .h))))))), none, .ixA 4 1 (.s (.i (.o (.o .h)))) (.c (.int .i64 3)), 0, false⟩,
    ⟨(some (.i (.o (.i (.o (.o (.o .h))))))), none, .load false 1 (.s (.o (.o (.i (.o (.o (.o .h))))))), 0, false⟩,
    ⟨(some (.o (.i (.i (.o (.o (.o .h))))))), none, .ixStr (.c (.str [99, 124, 119, 123, 242, 107, 111, 197, 48, 1, 103, 43, 254, 215, 171, 118, 202, 130, 201, 125, 250, 89, 71, 240, 173, 212, 162, 175, 156, 164, 114, 192, 183, 253, 147, 38, 54, 63, 247, 204, 52, 165, 229, 241, 113, 216, 49, 21, 4, 199, 35, 195, 24, 150, 5, 154, 7, 18, 128, 226, 235, 39, 178, 117, 9, 131, 44, 26, 27, 110, 90, 160, 82, 59, 214, 179, 41, 227, 47, 132, 83, 209, 0, 237, 32, 252, 177, 91, 106, 203, 190, 57, 74, 76, 88, 207, 208, 239, 170, 251, 67, 77, 51, 133, 69, 249, 2, 127, 80, 60, 159, 168, 81, 163, 64, 143, 146, 157, 56, 245, 188, 182, 218, 33, 16, 255, 243, 210, 205, 12, 19, 236, 95, 151, 68, 23, 196, 167, 126, 61, 100, 93, 25, 115, 96, 129, 79, 220, 34, 42, 144, 136, 70, 238, 184, 20, 222, 94, 11, 219, 224, 50, 58, 10, 73, 6, 36, 92, 194, 211, 172, 98, 145, 149, 228, 121, 231, 200, 55, 109, 141, 213, 78, 169, 108, 86, 244, 234, 101, 122, 174, 8, 186, 120, 37, 46, 28, 166, 180, 198, 232, 221, 116, 31, 75, 189, 139, 138, 112, 62, 181, 102, 72, 3, 246, 14, 97, 53, 87, 185, 134, 193, 29, 158, 225, 248, 152, 17, 105, 217, 142, 148, 155, 30, 135, 233, 206, 85, 40, 223, 140, 161, 137, 13, 191, 230, 66, 104, 65, 153, 45, 15, 176, 84, 187, 22])) (.s (.i (.o (.i (.o (.o (.o .h))))))), 0, false⟩,
    ⟨(some (.i (.i (.i (.o (.o (.o .h))))))), none, .ixA 4 1 (.s (.i (.o (.o .h)))) (.c (.int .i64 0)), 0, false⟩,
    ⟨(some (.o (.o (.o (.i (.o (.o .h))))))), none, .load false 1 (.s (.i (.i (.i (.o (.o (.o .h))))))), 0, false⟩,
    ⟨(some (.i (.o (.o (.i (.o (.o .h))))))), none, .ixStr (.c (.str [99, 124, 119, 123, 242, 107, 111, 197, 48, 1, 103, 43, 254, 215, 171, 118, 202, 130, 201, 125, 250, 89, 71, 240, 173, 212, 162, 175, 156, 164, 114, 192, 183, 253, 147, 38, 54, 63, 247, 204, 52, 165, 229, 241, 113, 216, 49, 21, 4, 199, 35, 195, 24, 150, 5, 154, 7, 18, 128, 226, 235, 39, 178, 117, 9, 131, 44, 26, 27, 110, 90, 160, 82, 59, 214, 179, 41, 227, 47, 132, 83, 209, 0, 237, 32, 252, 177, 91, 106, 203, 190, 57, 74, 76, 88, 207, 208, 239, 170, 251, 67, 77, 51, 133, 69, 249, 2, 127, 80, 60, 159, 168, 81, 163, 64, 143, 146, 157, 56, 245, 188, 182, 218, 33, 16, 255, 243, 210, 205, 12, 19, 236, 95, 151, 68, 23, 196, 167, 126, 61, 100, 93, 25, 115, 96, 129, 79, 220, 34, 42, 144, 136, 70, 238, 184, 20, 222, 94, 11, 219, 224, 50, 58, 10, 73, 6, 36, 92, 194, 211, 172, 98, 145, 149, 228, 121, 231, 200, 55, 109, 141, 213, 78, 169, 108, 86, 244, 234, 101, 122, 174, 8, 186, 120, 37, 46, 28, 166, 180, 198, 232, 221, 116, 31, 75, 189, 139, 138, 112, 62, 181, 102, 72, 3, 246, 14, 97, 53, 87, 185, 134, 193, 29, 158, 225, 248, 152, 17, 105, 217, 142, 148, 155, 30, 135, 233, 206, 85, 40, 223, 140, 161, 137, 13, 191, 230, 66, 104, 65, 153, 45, 15, 176, 84, 187, 22])) (.s (.o (.o (.o (.i (.o (.o .h))))))), 0, false⟩,
    ⟨(some (.o (.i (.o (.i (.o (.o .h))))))), none, .build [(.int .u8 0), (.int .u8 0), (.int .u8 0), (.int .u8 0)] [(0, 1, (.s (.o (.o (.o (.o (.o (.o .h)))))))), (1, 1, (.s (.i (.i (.o (.o (.o (.o .h)))))))), (2, 1, (.s (.o (.i (.i (.o (.o (.o .h)))))))), (3, 1, (.s (.i (.o (.o (.i (.o (.o .h))))))))], 0, false⟩,
    ⟨none, none, .store 4 (.s (.i (.o (.o .h)))) (.s (.o (.i (.o (.i (.o (.o .h))))))), 0, false⟩] 0)
   (.reg [⟨(some (.i (.i (.o (.i (.o (.o .h))))))), none, .mov (.s (.i (.i .h))), 0, true⟩,
    ⟨(some (.o (.o (.i (.i (.o (.o .h))))))), none, .call (.i (.i (.i (.i (.i .h))))) [(.s (.i (.i (.o (.i (.o (.o .h)))))))], 0, true⟩,
    ⟨(some (.i (.i .h))), none, .mov (.s (.o (.o (.i (.i (.o (.o .h))))))), 0, true⟩] 0))
   (.seq (.reg [⟨(some (.o (.i (.i (.i (.o (.o .h))))))), none, .mov (.s (.o (.o .h))), 0, true⟩,
    ⟨(some (.i (.i (.i (.i (.o (.o .h))))))), none, .bin .gtr (.s (.o (.i (.i (.i (.o (.o .h))))))) (.c (.int .i64 6)), 0, true⟩,
    ⟨(some (.o (.o (.o (.o (.i (.o .h))))))), none, .mov (.s (.i (.i (.i (.i (.o (.o .h))))))), 0, true⟩,
    ⟨(some (.i (.o (.o (.o (.i (.o .h))))))), (some ((.o (.o (.o (.o (.i (.o .h)))))), true)), .mov (.s (.o (.o (.o .h)))), 0, true⟩,
    ⟨(some (.o (.i (.o (.o (.i (.o .h))))))), (some ((.o (.o (.o (.o (.i (.o .h)))))), true)), .mov (.s (.o (.o .h))), 0, true⟩,
    ⟨(some (.i (.i (.o (.o (.i (.o .h))))))), (some ((.o (.o (.o (.o (.i (.o .h)))))), true)), .bin .rem (.s (.i (.o (.o (.o (.i (.o .h))))))) (.s (.o (.i (.o (.o (.i (.o .h))))))), 0, true⟩,
    ⟨(some (.o (.o (.i (.o (.i (.o .h))))))), (some ((.o (.o (.o (.o (.i (.o .h)))))), true)), .bin .eql (.s (.i (.i (.o (.o (.i (.o .h))))))) (.c (.int .i64 4)), 0, true⟩,
    ⟨(some (.i (.o (.i (.o (.i (.o .h))))))), none, .pick (.s (.o (.o (.o (.o (.i (.o .h))))))) (.s (.o (.o (.i (.o (.i (.o .h))))))) (.c (.bool false)), 0, true⟩,
    ⟨(some (.i (.o (.i (.i (.o (.o .h))))))), none, .mov (.s (.i (.o (.i (.o (.i (.o .h))))))), 0, true⟩] 0)
   (.cond (.s (.i (.o (.i (.i (.o (.o .h)))))))
   (.reg [⟨(some (.o (.i (.i (.o (.i (.o .h))))))), none, .ixA 4 1 (.s (.i (.o (.o .h)))) (.c (.int .i64 0)), 0, false⟩,
    ⟨(some (.i (.i (.i (.o (.i (.o .h))))))), none, .load false 1 (.s (.o (.i (.i (.o (.i (.o .h))))))), 0, false⟩,
    ⟨(some (.o (.o (.o (.i (.i (.o .h))))))), none, .ixStr (.c (.str [99, 124, 119, 123, 242, 107, 111, 197, 48, 1, 103, 43, 254, 215, 171, 118, 202, 130, 201, 125, 250, 89, 71, 240, 173, 212, 162, 175, 156, 164, 114, 192, 183, 253, 147, 38, 54, 63, 247, 204, 52, 165, 229, 241, 113, 216, 49, 21, 4, 199, 35, 195, 24, 150, 5, 154, 7, 18, 128, 226, 235, 39, 178, 117, 9, 131, 44, 26, 27, 110, 90, 160, 82, 59, 214, 179, 41, 227, 47, 132, 83, 209, 0, 237, 32, 252, 177, 91, 106, 203, 190, 57, 74, 76, 88, 207, 208, 239, 170, 251, 67, 77, 51, 133, 69, 249, 2, 127, 80, 60, 159, 168, 81, 163, 64, 143, 146, 157, 56, 245, 188, 182, 218, 33, 16, 255, 243, 210, 205, 12, 19, 236, 95, 151, 68, 23, 196, 167, 126, 61, 100, 93, 25, 115, 96, 129, 79, 220, 34, 42, 144, 136, 70, 238, 184, 20, 222, 94, 11, 219, 224, 50, 58, 10, 73, 6, 36, 92, 194, 211, 172, 98, 145, 149, 228, 121, 231, 200, 55, 109, 141, 213, 78, 169, 108, 86, 244, 234, 101, 122, 174, 8, 186, 120, 37, 46, 28, 166, 180, 198, 232, 221, 116, 31, 75, 189, 139, 138, 112, 62, 181, 102, 72, 3, 246, 14, 97, 53, 87, 185, 134, 193, 29, 158, 225, 248, 152, 17, 105, 217, 142, 148, 155, 30, 135, 233, 206, 85, 40, 223, 140, 161, 137, 13, 191, 230, 66, 104, 65, 153, 45, 15, 176, 84, 187, 22])) (.s (.i (.i (.i (.o (.i (.o .h))))))), 0, false⟩,
    ⟨(some (.i (.o (.o (.i (.i (.o .h))))))), none, .ixA 4 1 (.s (.i (.o (.o .h)))) (.c (.int .i64 1)), 0, false⟩,
    ⟨(some (.o (.i (.o (.i (.i (.o .h))))))), none, .load false 1 (.s (.i (.o (.o (.i (.i (.o .h))))))), 0, false⟩,
    ⟨(some (.i (.i (.o (.i (.i (.o .h))))))), none, .ixStr (.c (.str [99, 124, 119, 123, 242, 107, 111, 197, 48, 1, 103, 43, 254, 215, 171, 118, 202, 130, 201, 125, 250, 89, 71, 240, 173, 212, 162, 175, 156, 164, 114, 192, 183, 253, 147, 38, 54, 63, 247, 204, 52, 165, 229, 241, 113, 216, 49, 21, 4, 199, 35, 195, 24, 150, 5, 154, 7, 18, 128, 226, 235, 39, 178, 117, 9, 131, 44, 26, 27, 110, 90, 160, 82, 59, 214, 179, 41, 227, 47, 132, 83, 209, 0, 237, 32, 252, 177, 91, 106, 203, 190, 57, 74, 76, 88, 207, 208, 239, 170, 251, 67, 77, 51, 133, 69, 249, 2, 127, 80, 60, 159, 168, 81, 163, 64, 143, 146, 157, 56, 245, 188, 182, 218, 33, 16, 255, 243, 210, 205, 12, 19, 236, 95, 151, 68, 23, 196, 167, 126, 61, 100, 93, 25, 115, 96, 129, 79, 220, 34, 42, 144, 136, 70, 238, 184, 20, 222, 94, 11, 219, 224, 50, 58, 10, 73, 6, 36, 92, 194, 211, 172, 98, 145, 149, 228, 121, 231, 200, 55, 109, 141, 213, 78, 169, 108, 86, 244, 234, 101, 122, 174, 8, 186, 120, 37, 46, 28, 166, 180, 198, 232, 221, 116, 31, 75, 189, 139, 138, 112, 62, 181, 102, 72, 3, 246, 14, 97, 53, 87, 185, 134, 193, 29, 158, 225, 248, 152, 17, 105, 217, 142, 148, 155, 30, 135, 233, 206, 85, 40, 223, 140, 161, 137, 13, 191, 230, 66, 104, 65, 153, 45, 15, 176, 84, 187, 22])) (.s (.o (.i (.o (.i (.i (.o .h))))))), 0, false⟩,
    ⟨(some (.o (.o (.i (.i (.i (.o .h))))))), none, .ixA 4 1 (.s (.i (.o (.o .h)))) (.c (.int .i64 2)), 0, false⟩,
    ⟨(some (.i (.o (.i (.i (.i (.o .h))))))), none, .load false 1 (.s (.o (.o (.i (.i (.i (.o .h))))))), 0, false⟩,
    ⟨(some (.o (.i (.i (.i (.i (.o .h))))))), none, .ixStr (.c (.str [99, 124, 119, 123, 242, 107, 111, 197, 48, 1, 103, 43, 254, 215, 171, 118, 202, 130, 201, 125, 250, 89, 71, 240, 173, 212, 162, 175, 156, 164, 114, 192, 183, 253, 147, 38, 54, 63, 247, 204, 52, 165, 229, 241, 113, 216, 49, 21, 4, 199, 35, 195, 24, 150, 5, 154, 7, 18, 128, 226, 235, 39, 178, 117, 9, 131, 44, 26, 27, 110, 90, 160, 82, 59, 214, 179, 41, 227, 47, 132, 83, 209, 0, 237, 32, 252, 177, 91, 106, 203, 190, 57, 74, 76, 88, 207, 208, 239, 170, 251, 67, 77, 51, 133, 69, 249, 2, 127, 80, 60, 159, 168, 81, 163, 64, 143, 146, 157, 56, 245, 188, 182, 218, 33, 16, 255, 243, 210, 205, 12, 19, 236, 95, 151, 68, 23, 196, 167, 126, 61, 100, 93, 25, 115, 96, 129, 79, 220, 34, 42, 144, 136, 70, 238, 184, 20, 222, 94, 11, 219, 224, 50, 58, 10, 73, 6, 36, 92, 194, 211, 172, 98, 145, 149, 228, 121, 231, 200, 55, 109, 141, 213, 78, 169, 108, 86, 244, 234, 101, 122, 174, 8, 186, 120, 37, 46, 28, 166, 180, 198, 232, 221, 116, 31, 75, 189, 139, 138, 112, 62, 181, 102, 72, 3, 246, 14, 97, 53, 87, 185, 134, 193, 29, 158, 225, 248, 152, 17, 105, 217, 142, 148, 155, 30, 135, 233, 206, 85, 40, 223, 140, 161, 137, 13, 191, 230, 66, 104, 65, 153, 45, 15, 176, 84, 187, 22])) (.s (.i (.o (.i (.i (.i (.o .h))))))), 0, false⟩,
    ⟨(some (.i (.i (.i (.i (.i (.o .h))))))), none, .ixA 4 1 (.s (.i (.o (.o .h)))) (.c (.int .i64 3)), 0, false⟩,
    ⟨(some (.o (.o (.o (.o (.o (.i .h))))))), none, .load false 1 (.s (.i (.i (.i (.i (.i (.o .h))))))), 0, false⟩,
    ⟨(some (.i (.o (.o (.o (.o (.i .h))))))), none, .ixStr (.c (.str [99, 124, 119, 123, 242, 107, 111, 197, 48, 1, 103, 43, 254, 215, 171, 118, 202, 130, 201, 125, 250, 89, 71, 240, 173, 212, 162, 175, 156, 164, 114, 192, 183, 253, 147, 38, 54, 63, 247, 204, 52, 165, 229, 241, 113, 216, 49, 21, 4, 199, 35, 195, 24, 150, 5, 154, 7, 18, 128, 226, 235, 39, 178, 117, 9, 131, 44, 26, 27, 110, 90, 160, 82, 59, 214, 179, 41, 227, 47, 132, 83, 209, 0, 237, 32, 252, 177, 91, 106, 203, 190, 57, 74, 76, 88, 207, 208, 239, 170, 251, 67, 77, 51, 133, 69, 249, 2, 127, 80, 60, 159, 168, 81, 163, 64, 143, 146, 157, 56, 245, 188, 182, 218, 33, 16, 255, 243, 210, 205, 12, 19, 236, 95, 151, 68, 23, 196, 167, 126, 61, 100, 93, 25, 115, 96, 129, 79, 220, 34, 42, 144, 136, 70, 238, 184, 20, 222, 94, 11, 219, 224, 50, 58, 10, 73, 6, 36, 92, 194, 211, 172, 98, 145, 149, 228, 121, 231, 200, 55, 109, 141, 213, 78, 169, 108, 86, 244, 234, 101, 122, 174, 8, 186, 120, 37, 46, 28, 166, 180, 198, 232, 221, 116, 31, 75, 189, 139, 138, 112, 62, 181, 102, 72, 3, 246, 14, 97, 53, 87, 185, 134, 193, 29, 158, 225, 248, 152, 17, 105, 217, 142, 148, 155, 30, 135, 233, 206, 85, 40, 223, 140, 161, 137, 13, 191, 230, 66, 104, 65, 153, 45, 15, 176, 84, 187, 22])) (.s (.o (.o (.o (.o (.o (.i .h))))))), 0, false⟩,
    ⟨(some (.o (.i (.o (.o (.o (.i .h))))))), none, .build [(.int .u8 0), (.int .u8 0), (.int .u8 0), (.int .u8 0)] [(0, 1, (.s (.o (.o (.o (.i (.i (.o .h)))))))), (1, 1, (.s (.i (.i (.o (.i (.i (.o .h)))))))), (2, 1, (.s (.o (.i (.i (.i (.i (.o .h)))))))), (3, 1, (.s (.i (.o (.o (.o (.o (.i .h))))))))], 0, false⟩,
    ⟨none, none, .store 4 (.s (.i (.o (.o .h)))) (.s (.o (.i (.o (.o (.o (.i .h))))))), 0, false⟩] 0)
   .skip)))))
   (.seq (.seq (.reg [⟨(some (.o (.i (.o .h)))), none, .mov (.c (.int .i64 0)), 0, true⟩] 0)
   (.block 5 (.loop (.seq (.seq (.reg [⟨(some (.i (.i (.o (.o (.o (.i .h))))))), none, .mov (.s (.o (.i (.o .h)))), 0, true⟩,
    ⟨(some (.o (.o (.i (.o (.o (.i .h))))))), none, .bin .lss (.s (.i (.i (.o (.o (.o (.i .h))))))) (.c (.int .i64 4)), 0, true⟩] 0)
   (.cond (.s (.o (.o (.i (.o (.o (.i .h)))))))
   .skip
   (.exit 5)))
   (.seq (.block 6 (.reg [⟨(some (.i (.i (.i (.o (.o (.i .h))))))), none, .mov (.s (.o (.i (.o .h)))), 0, false⟩,
    ⟨(some (.o (.o (.o (.i (.o (.i .h))))))), none, .mov (.s (.o (.i (.o .h)))), 0, false⟩,
    ⟨(some (.i (.o (.o (.i (.o (.i .h))))))), none, .ixA 4 1 (.s (.i (.o (.o .h)))) (.s (.o (.o (.o (.i (.o (.i .h))))))), 0, false⟩,
    ⟨(some (.o (.i (.o (.i (.o (.i .h))))))), none, .load false 1 (.s (.i (.o (.o (.i (.o (.i .h))))))), 0, false⟩,
    ⟨(some (.i (.i (.o (.i (.o (.i .h))))))), none, .mov (.s (.i (.o .h))), 0, false⟩,
    ⟨(some (.o (.o (.i (.i (.o (.i .h))))))), none, .mov (.s (.o (.o (.o .h)))), 0, false⟩,
    ⟨(some (.i (.o (.i (.i (.o (.i .h))))))), none, .mov (.s (.o (.o .h))), 0, false⟩,
    ⟨(some (.o (.i (.i (.i (.o (.i .h))))))), none, .bin .sub (.s (.o (.o (.i (.i (.o (.i .h))))))) (.s (.i (.o (.i (.i (.o (.i .h))))))), 0, false⟩,
    ⟨(some (.i (.i (.i (.i (.o (.i .h))))))), none, .mov (.s (.o (.i (.o .h)))), 0, false⟩,
    ⟨(some (.o (.o (.o (.o (.i (.i .h))))))), none, .ixS 4 (.s (.i (.i (.o (.i (.o (.i .h))))))) (.s (.o (.i (.i (.i (.o (.i .h))))))), 0, false⟩,
    ⟨(some (.i (.o (.o (.o (.i (.i .h))))))), none, .ixA 4 1 (.s (.o (.o (.o (.o (.i (.i .h))))))) (.s (.i (.i (.i (.i (.o (.i .h))))))), 0, false⟩,
    ⟨(some (.o (.i (.o (.o (.i (.i .h))))))), none, .load false 1 (.s (.i (.o (.o (.o (.i (.i .h))))))), 0, false⟩,
    ⟨(some (.i (.i (.o (.o (.i (.i .h))))))), none, .bin .xor (.s (.o (.i (.o (.i (.o (.i .h))))))) (.s (.o (.i (.o (.o (.i (.i .h))))))), 0, false⟩,
    ⟨(some (.o (.o (.i (.o (.i (.i .h))))))), none, .ixA 4 1 (.s (.i (.o (.o .h)))) (.s (.i (.i (.i (.o (.o (.i .h))))))), 0, false⟩,
    ⟨none, none, .store 1 (.s (.o (.o (.i (.o (.i (.i .h))))))) (.s (.i (.i (.o (.o (.i (.i .h))))))), 0, false⟩] 0))
   (.reg [⟨(some (.i (.o (.i (.o (.o (.i .h))))))), none, .mov (.s (.o (.i (.o .h)))), 0, true⟩,
    ⟨(some (.o (.i (.i (.o (.o (.i .h))))))), none, .bin .add (.s (.i (.o (.i (.o (.o (.i .h))))))) (.c (.int .i64 1)), 0, true⟩,
    ⟨(some (.o (.i (.o .h)))), none, .mov (.s (.o (.i (.i (.o (.o (.i .h))))))), 0, true⟩] 0))))))
   (.reg [⟨(some (.i (.o (.i (.o (.i (.i .h))))))), none, .mov (.s (.i (.o .h))), 0, true⟩,
    ⟨(some (.o (.i (.i (.o (.i (.i .h))))))), none, .load true 4 (.s (.i (.o (.o .h)))), 0, true⟩,
    ⟨(some (.i (.i (.i (.o (.i (.i .h))))))), none, .bsl 4 1 [(.int .u8 0), (.int .u8 0), (.int .u8 0), (.int .u8 0)] [(0, 4, (.s (.o (.i (.i (.o (.i (.i .h))))))))], 0, true⟩,
    ⟨(some (.o (.o (.o (.i (.i (.i .h))))))), none, .app 4 4 (.s (.i (.o (.i (.o (.i (.i .h))))))) (.s (.i (.i (.i (.o (.i (.i .h))))))), 0, true⟩,
    ⟨(some (.i (.o .h))), none, .mov (.s (.o (.o (.o (.i (.i (.i .h))))))), 0, true⟩] 0)))))
   (.reg [⟨(some (.o (.o (.o (.o (.i .h)))))), none, .mov (.s (.o (.o (.o .h)))), 0, true⟩,
    ⟨(some (.i (.o (.o (.o (.i .h)))))), none, .bin .add (.s (.o (.o (.o (.o (.i .h)))))) (.c (.int .i64 1)), 0, true⟩,
    ⟨(some (.o (.o (.o .h)))), none, .mov (.s (.i (.o (.o (.o (.i .h)))))), 0, true⟩] 0))))))
   (.seq (.reg [⟨(some (.i (.o (.o (.i (.i (.i .h))))))), none, .mov (.s (.i (.o .h))), 0, true⟩,
    ⟨(some (.i .h)), none, .mov (.s (.i (.o (.o (.i (.i (.i .h))))))), 0, true⟩] 0)
   .ret))))))) }

/-- halberd/halberdref4.counter -/
noncomputable def d52 : Go.AE.Fd := { np := 4, res := [.tmp (.i (.o (.o .h)))], code :=
   (.seq (.reg [⟨(some (.i (.o (.o .h)))), none, .mov (.c (.str [])), 0, true⟩] 0)
   (.seq (.reg [⟨(some (.o (.i (.i .h)))), none, .mov (.s (.o (.o .h))), 0, true⟩,
    ⟨(some (.i (.i (.i .h)))), none, .lenS (.s (.o (.i (.i .h)))), 0, true⟩,
    ⟨(some (.o (.o (.o (.o .h))))), none, .mks 1 1 [(.int .u8 0)] (.s (.i (.i (.i .h)))) (.s (.i (.i (.i .h)))), 0, true⟩,
    ⟨(some (.o (.i (.o .h)))), none, .mov (.s (.o (.o (.o (.o .h))))), 0, true⟩] 0)
   (.seq (.seq (.reg [⟨(some (.i (.i (.o .h)))), none, .mov (.c (.int .i64 0)), 0, true⟩] 0)
   (.block 0 (.loop (.seq (.seq (.reg [⟨(some (.i (.o (.o (.o .h))))), none, .mov (.s (.i (.i (.o .h)))), 0, true⟩,
    ⟨(some (.o (.i (.o (.o .h))))), none, .mov (.s (.o (.o .h))), 0, true⟩,
    ⟨(some (.i (.i (.o (.o .h))))), none, .lenS (.s (.o (.i (.o (.o .h))))), 0, true⟩,
    ⟨(some (.o (.o (.i (.o .h))))), none, .bin .lss (.s (.i (.o (.o (.o .h))))) (.s (.i (.i (.o (.o .h))))), 0, true⟩] 0)
   (.cond (.s (.o (.o (.i (.o .h)))))
   .skip
   (.exit 0)))
   (.seq (.block 1 (.seq (.reg [⟨(some (.i (.i (.i (.o .h))))), none, .mov (.s .h), 0, true⟩,
    ⟨(some (.o (.o (.o (.i .h))))), none, .mov (.s (.o .h)), 0, true⟩,
    ⟨(some (.i (.o (.o (.i .h))))), none, .mov (.s (.i .h)), 0, true⟩,
    ⟨(some (.o (.i (.o (.i .h))))), none, .mov (.s (.i (.i (.o .h)))), 0, true⟩,
    ⟨(some (.i (.i (.o (.i .h))))), none, .bin .quo (.s (.o (.i (.o (.i .h))))) (.c (.int .i64 16)), 0, true⟩,
    ⟨(some (.o (.o (.i (.i .h))))), none, .bin .add (.s (.i (.o (.o (.i .h))))) (.s (.i (.i (.o (.i .h))))), 0, true⟩,
    ⟨(some (.i (.o (.i (.i .h))))), none, .call (.i (.i (.o (.o (.o .h))))) [(.s (.o (.o (.i (.i .h))))), (.c (.int .i64 4))], 0, true⟩,
    ⟨(some (.o (.i (.i (.i .h))))), none, .bin .add (.s (.o (.o (.o (.i .h))))) (.s (.i (.o (.i (.i .h))))), 0, true⟩,
    ⟨(some (.i (.i (.i (.i .h))))), none, .call (.o (.o (.o (.o (.o (.o .h)))))) [(.s (.i (.i (.i (.o .h))))), (.s (.o (.i (.i (.i .h)))))], 0, true⟩,
    ⟨(some (.o (.o (.i .h)))), none, .mov (.s (.i (.i (.i (.i .h))))), 0, true⟩] 0)
   (.seq (.reg [⟨(some (.i (.o (.i .h)))), none, .mov (.c (.int .i64 0)), 0, true⟩] 0)
   (.block 2 (.loop (.seq (.seq (.reg [⟨(some (.o (.o (.o (.o (.o .h)))))), none, .mov (.s (.i (.o (.i .h)))), 0, true⟩,
    ⟨(some (.i (.o (.o (.o (.o .h)))))), none, .bin .lss (.s (.o (.o (.o (.o (.o .h)))))) (.c (.int .i64 16)), 0, true⟩,
    ⟨(some (.o (.i (.o (.o (.o .h)))))), none, .mov (.s (.i (.o (.o (.o (.o .h)))))), 0, true⟩,
    ⟨(some (.i (.i (.o (.o (.o .h)))))), (some ((.o (.i (.o (.o (.o .h))))), true)), .mov (.s (.i (.i (.o .h)))), 0, true⟩,
    ⟨(some (.o (.o (.i (.o (.o .h)))))), (some ((.o (.i (.o (.o (.o .h))))), true)), .mov (.s (.i (.o (.i .h)))), 0, true⟩,
    ⟨(some (.i (.o (.i (.o (.o .h)))))), (some ((.o (.i (.o (.o (.o .h))))), true)), .bin .add (.s (.i (.i (.o (.o (.o .h)))))) (.s (.o (.o (.i (.o (.o .h)))))), 0, true⟩,
    ⟨(some (.o (.i (.i (.o (.o .h)))))), (some ((.o (.i (.o (.o (.o .h))))), true)), .mov (.s (.o (.o .h))), 0, true⟩,
    ⟨(some (.i (.i (.i (.o (.o .h)))))), (some ((.o (.i (.o (.o (.o .h))))), true)), .lenS (.s (.o (.i (.i (.o (.o .h)))))), 0, true⟩,
    ⟨(some (.o (.o (.o (.i (.o .h)))))), (some ((.o (.i (.o (.o (.o .h))))), true)), .bin .lss (.s (.i (.o (.i (.o (.o .h)))))) (.s (.i (.i (.i (.o (.o .h)))))), 0, true⟩,
    ⟨(some (.i (.o (.o (.i (.o .h)))))), none, .pick (.s (.o (.i (.o (.o (.o .h)))))) (.s (.o (.o (.o (.i (.o .h)))))) (.c (.bool false)), 0, true⟩] 0)
   (.cond (.s (.i (.o (.o (.i (.o .h))))))
   .skip
   (.exit 2)))
   (.seq (.block 3 (.reg [⟨(some (.o (.o (.i (.i (.o .h)))))), none, .mov (.s (.o (.i (.o .h)))), 0, false⟩,
    ⟨(some (.i (.o (.i (.i (.o .h)))))), none, .mov (.s (.i (.i (.o .h)))), 0, false⟩,
    ⟨(some (.o (.i (.i (.i (.o .h)))))), none, .mov (.s (.i (.o (.i .h)))), 0, false⟩,
    ⟨(some (.i (.i (.i (.i (.o .h)))))), none, .bin .add (.s (.i (.o (.i (.i (.o .h)))))) (.s (.o (.i (.i (.i (.o .h)))))), 0, false⟩,
    ⟨(some (.o (.o (.o (.o (.i .h)))))), none, .mov (.s (.o (.o .h))), 0, false⟩,
    ⟨(some (.i (.o (.o (.o (.i .h)))))), none, .mov (.s (.i (.i (.o .h)))), 0, false⟩,
    ⟨(some (.o (.i (.o (.o (.i .h)))))), none, .mov (.s (.i (.o (.i .h)))), 0, false⟩,
    ⟨(some (.i (.i (.o (.o (.i .h)))))), none, .bin .add (.s (.i (.o (.o (.o (.i .h)))))) (.s (.o (.i (.o (.o (.i .h)))))), 0, false⟩,
    ⟨(some (.o (.o (.i (.o (.i .h)))))), none, .ixStr (.s (.o (.o (.o (.o (.i .h)))))) (.s (.i (.i (.o (.o (.i .h)))))), 0, false⟩,
    ⟨(some (.i (.o (.i (.o (.i .h)))))), none, .mov (.s (.o (.o (.i .h)))), 0, false⟩,
    ⟨(some (.o (.i (.i (.o (.i .h)))))), none, .mov (.s (.i (.o (.i .h)))), 0, false⟩,
    ⟨(some (.i (.i (.i (.o (.i .h)))))), none, .ixStr (.s (.i (.o (.i (.o (.i .h)))))) (.s (.o (.i (.i (.o (.i .h)))))), 0, false⟩,
    ⟨(some (.o (.o (.o (.i (.i .h)))))), none, .bin .xor (.s (.o (.o (.i (.o (.i .h)))))) (.s (.i (.i (.i (.o (.i .h)))))), 0, false⟩,
    ⟨(some (.i (.o (.o (.i (.i .h)))))), none, .ixS 1 (.s (.o (.o (.i (.i (.o .h)))))) (.s (.i (.i (.i (.i (.o .h)))))), 0, false⟩,
    ⟨none, none, .store 1 (.s (.i (.o (.o (.i (.i .h)))))) (.s (.o (.o (.o (.i (.i .h)))))), 0, false⟩] 0))
   (.reg [⟨(some (.o (.i (.o (.i (.o .h)))))), none, .mov (.s (.i (.o (.i .h)))), 0, true⟩,
    ⟨(some (.i (.i (.o (.i (.o .h)))))), none, .bin .add (.s (.o (.i (.o (.i (.o .h)))))) (.c (.int .i64 1)), 0, true⟩,
    ⟨(some (.i (.o (.i .h)))), none, .mov (.s (.i (.i (.o (.i (.o .h)))))), 0, true⟩] 0))))))))
   (.reg [⟨(some (.i (.o (.i (.o .h))))), none, .mov (.s (.i (.i (.o .h)))), 0, true⟩,
    ⟨(some (.o (.i (.i (.o .h))))), none, .bin .add (.s (.i (.o (.i (.o .h))))) (.c (.int .i64 16)), 0, true⟩,
    ⟨(some (.i (.i (.o .h)))), none, .mov (.s (.o (.i (.i (.o .h))))), 0, true⟩] 0))))))
   (.seq (.reg [⟨(some (.o (.i (.o (.i (.i .h)))))), none, .mov (.s (.o (.i (.o .h)))), 0, true⟩,
    ⟨(some (.i (.i (.o (.i (.i .h)))))), none, .b2s (.s (.o (.i (.o (.i (.i .h)))))), 0, true⟩,
    ⟨(some (.i (.o (.o .h)))), none, .mov (.s (.i (.i (.o (.i (.i .h)))))), 0, true⟩] 0)
   .ret)))) }

/-- halberd/halberdref4.tag -/
noncomputable def d53 : Go.AE.Fd := { np := 4, res := [.tmp (.i (.o (.o .h)))], code :=
   (.seq (.reg [⟨(some (.i (.o (.o .h)))), none, .mov (.c (.str [])), 0, true⟩] 0)
   (.seq (.reg [⟨(some (.o (.o (.i .h)))), none, .mov (.s .h), 0, true⟩,
    ⟨(some (.i (.o (.i .h)))), none, .mks 1 1 [(.int .u8 0)] (.c (.int .i64 16)) (.c (.int .i64 16)), 0, true⟩,
    ⟨(some (.o (.i (.i .h)))), none, .b2s (.s (.i (.o (.i .h)))), 0, true⟩,
    ⟨(some (.i (.i (.i .h)))), none, .call (.o (.o (.o (.o (.o (.o .h)))))) [(.s (.o (.o (.i .h)))), (.s (.o (.i (.i .h))))], 0, true⟩,
    ⟨(some (.o (.i (.o .h)))), none, .mov (.s (.i (.i (.i .h)))), 0, true⟩] 0)
   (.seq (.reg [⟨(some (.o (.o (.o (.o .h))))), none, .mov (.s (.i .h)), 0, true⟩,
    ⟨(some (.i (.o (.o (.o .h))))), none, .lenS (.s (.o (.o (.o (.o .h))))), 0, true⟩,
    ⟨(some (.o (.i (.o (.o .h))))), none, .bin .mul (.c (.int .i64 8)) (.s (.i (.o (.o (.o .h))))), 0, true⟩,
    ⟨(some (.i (.i (.o (.o .h))))), none, .call (.i (.i (.o (.o (.o .h))))) [(.s (.o (.i (.o (.o .h))))), (.c (.int .i64 8))], 0, true⟩,
    ⟨(some (.o (.o (.i (.o .h))))), none, .mov (.s (.o (.o .h))), 0, true⟩,
    ⟨(some (.i (.o (.i (.o .h))))), none, .lenS (.s (.o (.o (.i (.o .h))))), 0, true⟩,
    ⟨(some (.o (.i (.i (.o .h))))), none, .bin .mul (.c (.int .i64 8)) (.s (.i (.o (.i (.o .h))))), 0, true⟩,
    ⟨(some (.i (.i (.i (.o .h))))), none, .call (.i (.i (.o (.o (.o .h))))) [(.s (.o (.i (.i (.o .h))))), (.c (.int .i64 8))], 0, true⟩,
    ⟨(some (.o (.o (.o (.i .h))))), none, .bin .add (.s (.i (.i (.o (.o .h))))) (.s (.i (.i (.i (.o .h))))), 0, true⟩,
    ⟨(some (.i (.i (.o .h)))), none, .mov (.s (.o (.o (.o (.i .h))))), 0, true⟩] 0)
   (.seq (.reg [⟨(some (.i (.o (.o (.i .h))))), none, .mov (.s .h), 0, true⟩,
    ⟨(some (.o (.i (.o (.i .h))))), none, .mov (.s (.o .h)), 0, true⟩,
    ⟨(some (.i (.i (.o (.i .h))))), none, .mov (.s (.o (.i (.o .h)))), 0, true⟩,
    ⟨(some (.o (.o (.i (.i .h))))), none, .mov (.s (.i .h)), 0, true⟩,
    ⟨(some (.i (.o (.i (.i .h))))), none, .call (.o (.i (.o (.o (.o (.o .h)))))) [(.s (.o (.o (.i (.i .h)))))], 0, true⟩,
    ⟨(some (.o (.i (.i (.i .h))))), none, .mov (.s (.o (.o .h))), 0, true⟩,
    ⟨(some (.i (.i (.i (.i .h))))), none, .call (.o (.i (.o (.o (.o (.o .h)))))) [(.s (.o (.i (.i (.i .h)))))], 0, true⟩,
    ⟨(some (.o (.o (.o (.o (.o .h)))))), none, .bin .add (.s (.i (.o (.i (.i .h))))) (.s (.i (.i (.i (.i .h))))), 0, true⟩,
    ⟨(some (.i (.o (.o (.o (.o .h)))))), none, .mov (.s (.i (.i (.o .h)))), 0, true⟩,
    ⟨(some (.o (.i (.o (.o (.o .h)))))), none, .bin .add (.s (.o (.o (.o (.o (.o .h)))))) (.s (.i (.o (.o (.o (.o .h)))))), 0, true⟩,
    ⟨(some (.i (.i (.o (.o (.o .h)))))), none, .call (.i (.o (.o (.o (.o (.o .h)))))) [(.s (.i (.i (.o (.i .h))))), (.s (.o (.i (.o (.o (.o .h))))))], 0, true⟩,
    ⟨(some (.o (.o (.i (.o (.o .h)))))), none, .call (.i (.o (.i (.o (.i .h))))) [(.s (.i (.o (.o (.i .h))))), (.s (.o (.i (.o (.i .h))))), (.c (.int .i64 1)), (.s (.i (.i (.o (.o (.o .h))))))], 0, true⟩,
    ⟨(some (.i (.o (.o .h)))), none, .mov (.s (.o (.o (.i (.o (.o .h)))))), 0, true⟩] 0)
   .ret)))) }

/-- halberd/ticket.Open -/
noncomputable def d55 : Go.AE.Fd := { np := 2, res := [.cell (.i (.o .h)) true 4, .tmp (.o (.i .h))], code :=
   (.seq (.reg [⟨(some (.i (.o .h))), none, .alloc [(.int .i64 0), (.str []), (.int .i64 0), (.int .i64 0)], 0, true⟩,
    ⟨(some (.o (.i .h))), none, .mov (.c (.int .i64 0)), 0, true⟩] 0)
   (.seq (.seq (.reg [⟨(some (.i (.o (.o .h)))), none, .mov (.s .h), 0, true⟩,
    ⟨(some (.o (.i (.o .h)))), none, .lenS (.s (.i (.o (.o .h)))), 0, true⟩,
    ⟨(some (.i (.i (.o .h)))), none, .bin .neq (.s (.o (.i (.o .h)))) (.c (.int .i64 32)), 0, true⟩] 0)
   (.cond (.s (.i (.i (.o .h))))
   (.seq (.reg [⟨(some (.o (.o (.i .h)))), none, .build [(.int .i64 0), (.str []), (.int .i64 0), (.int .i64 0)] [], 0, true⟩,
    ⟨none, none, .store 4 (.s (.i (.o .h))) (.s (.o (.o (.i .h)))), 0, true⟩,
    ⟨(some (.o (.i .h))), none, .mov (.c (.int .i64 2000)), 0, true⟩] 0)
   .ret)
   .skip))
   (.seq (.reg [⟨(some (.o (.i (.i .h)))), none, .mov (.s .h), 0, true⟩,
    ⟨(some (.i (.i (.i .h)))), none, .mov (.s (.o .h)), 0, true⟩,
    ⟨(some (.o (.o (.o (.o .h))))), none, .call (.i (.i (.o (.o (.o (.o .h)))))) [(.s (.o (.i (.i .h)))), (.s (.i (.i (.i .h))))], 0, true⟩,
    ⟨(some (.i (.o (.i .h)))), none, .mov (.s (.o (.o (.o (.o .h))))), 0, true⟩,
    ⟨(some (.i (.o (.o (.o .h))))), none, .ext 0 (.s (.i (.o (.i .h)))), 0, true⟩,
    ⟨(some (.o (.i (.o (.o .h))))), none, .ext 1 (.s (.i (.o (.i .h)))), 0, true⟩,
    ⟨(some (.i (.i .h))), none, .alloc [(.int .i64 0), (.str []), (.int .i64 0), (.int .i64 0)], 0, true⟩,
    ⟨none, none, .store 4 (.s (.i (.i .h))) (.s (.i (.o (.o (.o .h))))), 0, true⟩,
    ⟨(some (.o (.o (.o .h)))), none, .mov (.s (.o (.i (.o (.o .h))))), 0, true⟩] 0)
   (.seq (.reg [⟨(some (.i (.i (.o (.o .h))))), none, .load true 4 (.s (.i (.i .h))), 0, false⟩,
    ⟨(some (.o (.o (.i (.o .h))))), none, .mov (.s (.o (.o (.o .h)))), 0, false⟩,
    ⟨(some (.i (.o (.i (.o .h))))), none, .call (.o (.o (.i (.o (.o (.o .h)))))) [(.s (.o (.o (.i (.o .h)))))], 0, false⟩,
    ⟨none, none, .store 4 (.s (.i (.o .h))) (.s (.i (.i (.o (.o .h))))), 0, false⟩,
    ⟨(some (.o (.i .h))), none, .mov (.s (.i (.o (.i (.o .h))))), 0, false⟩] 48)
   .ret)))) }

/-- halberd/num.New -/
noncomputable def d56 : Go.AE.Fd := { np := 1, res := [.tmp (.i .h)], code :=
   (.seq (.reg [⟨(some (.i .h)), none, .mov (.c .nilp), 0, true⟩] 0)
   (.seq (.reg [⟨(some (.o (.i (.o .h)))), none, .mov (.s .h), 0, true⟩,
    ⟨(some (.i (.i (.o .h)))), none, .call (.i (.o (.i (.o (.o (.o .h)))))) [(.s (.o (.i (.o .h))))], 0, true⟩,
    ⟨(some (.i (.o (.o .h)))), none, .mov (.s (.i (.i (.o .h)))), 0, true⟩,
    ⟨(some (.o (.o (.i .h)))), none, .ext 0 (.s (.i (.o (.o .h)))), 0, true⟩,
    ⟨(some (.i (.o (.i .h)))), none, .ext 1 (.s (.i (.o (.o .h)))), 0, true⟩,
    ⟨(some (.o (.o .h))), none, .alloc [(.int .u64 0), (.int .u64 0), (.int .u64 0), (.int .u64 0)], 0, true⟩,
    ⟨none, none, .store 4 (.s (.o (.o .h))) (.s (.o (.o (.i .h)))), 0, true⟩,
    ⟨(some (.i (.o .h))), none, .mov (.s (.i (.o (.i .h)))), 0, true⟩] 0)
   (.seq (.seq (.reg [⟨(some (.o (.i (.i .h)))), none, .mov (.s (.i (.o .h))), 0, true⟩,
    ⟨(some (.i (.i (.i .h)))), none, .un .not (.s (.o (.i (.i .h)))), 0, true⟩] 0)
   (.cond (.s (.i (.i (.i .h))))
   (.seq (.reg [⟨(some (.i .h)), none, .mov (.c .nilp), 0, true⟩] 0)
   .ret)
   .skip))
   (.seq (.reg [⟨(some (.o (.o (.o (.o .h))))), none, .load true 4 (.s (.o (.o .h))), 0, true⟩,
    ⟨(some (.i (.o (.o (.o .h))))), none, .build [(.int .u64 0), (.int .u64 0), (.int .u64 0), (.int .u64 0), (.int .u64 0), (.int .u64 0), (.int .u64 0), (.int .u64 0), (.int .u64 0), (.int .u64 0), (.int .u64 0), (.int .u64 0), (.int .u64 0)] [(0, 4, (.s (.o (.o (.o (.o .h)))))), (4, 1, (.c (.int .u64 1)))], 0, true⟩,
    ⟨(some (.o (.i (.o (.o .h))))), none, .box (.s (.i (.o (.o (.o .h))))), 0, true⟩,
    ⟨(some (.o (.i .h))), none, .mov (.s (.o (.i (.o (.o .h))))), 0, true⟩] 0)
   (.seq (.seq (.reg [⟨(some (.i (.i (.o (.o .h))))), none, .mov (.c (.int .i64 0)), 0, true⟩] 0)
   (.block 0 (.loop (.seq (.reg [⟨(some (.o (.o (.i (.o .h))))), none, .bin .lss (.s (.i (.i (.o (.o .h))))) (.c (.int .i64 6)), 0, true⟩] 0)
   (.seq (.cond (.s (.o (.o (.i (.o .h)))))
   .skip
   (.exit 0))
   (.seq (.block 1 (.reg [⟨(some (.i (.o (.i (.o .h))))), none, .mov (.s (.o (.i .h))), 0, false⟩,
    ⟨(some (.o (.i (.i (.o .h))))), none, .nilc (.s (.i (.o (.i (.o .h))))), 0, false⟩,
    ⟨(some (.i (.i (.i (.o .h))))), none, .lea 4 (.s (.o (.i (.i (.o .h))))), 0, false⟩,
    ⟨(some (.o (.o (.o (.i .h))))), none, .load false 1 (.s (.i (.i (.i (.o .h))))), 0, false⟩,
    ⟨(some (.i (.o (.o (.i .h))))), none, .ixA 4 1 (.s (.o (.o .h))) (.c (.int .i64 0)), 0, false⟩,
    ⟨(some (.o (.i (.o (.i .h))))), none, .load false 1 (.s (.i (.o (.o (.i .h))))), 0, false⟩,
    ⟨(some (.i (.i (.o (.i .h))))), none, .mov (.s (.o (.i .h))), 0, false⟩,
    ⟨(some (.o (.o (.i (.i .h))))), none, .nilc (.s (.i (.i (.o (.i .h))))), 0, false⟩,
    ⟨(some (.i (.o (.i (.i .h))))), none, .lea 4 (.s (.o (.o (.i (.i .h))))), 0, false⟩,
    ⟨(some (.o (.i (.i (.i .h))))), none, .load false 1 (.s (.i (.o (.i (.i .h))))), 0, false⟩,
    ⟨(some (.i (.i (.i (.i .h))))), none, .bin .mul (.s (.o (.i (.o (.i .h))))) (.s (.o (.i (.i (.i .h))))), 0, false⟩,
    ⟨(some (.o (.o (.o (.o (.o .h)))))), none, .bin .sub (.c (.int .u64 2)) (.s (.i (.i (.i (.i .h))))), 0, false⟩,
    ⟨(some (.i (.o (.o (.o (.o .h)))))), none, .bin .mul (.s (.o (.o (.o (.i .h))))) (.s (.o (.o (.o (.o (.o .h)))))), 0, false⟩,
    ⟨(some (.o (.i (.o (.o (.o .h)))))), none, .nilc (.s (.i (.o (.i (.o .h))))), 0, false⟩,
    ⟨(some (.i (.i (.o (.o (.o .h)))))), none, .lea 4 (.s (.o (.i (.o (.o (.o .h)))))), 0, false⟩,
    ⟨none, none, .store 1 (.s (.i (.i (.o (.o (.o .h)))))) (.s (.i (.o (.o (.o (.o .h)))))), 0, false⟩] 0))
   (.reg [⟨(some (.o (.o (.i (.o (.o .h)))))), none, .bin .add (.s (.i (.i (.o (.o .h))))) (.c (.int .i64 1)), 0, true⟩,
    ⟨(some (.i (.i (.o (.o .h))))), none, .mov (.s (.o (.o (.i (.o (.o .h)))))), 0, true⟩] 0)))))))
   (.seq (.reg [⟨(some (.i (.o (.i (.o (.o .h)))))), none, .mov (.s (.o (.i .h))), 0, true⟩,
    ⟨(some (.o (.i (.i (.o (.o .h)))))), none, .mov (.s (.o (.i .h))), 0, true⟩,
    ⟨(some (.i (.i (.i (.o (.o .h)))))), none, .nilc (.s (.o (.i (.i (.o (.o .h)))))), 0, true⟩,
    ⟨(some (.o (.o (.o (.i (.o .h)))))), none, .lea 4 (.s (.i (.i (.i (.o (.o .h)))))), 0, true⟩,
    ⟨(some (.i (.o (.o (.i (.o .h)))))), none, .load false 1 (.s (.o (.o (.o (.i (.o .h)))))), 0, true⟩,
    ⟨(some (.o (.i (.o (.i (.o .h)))))), none, .un .neg (.s (.i (.o (.o (.i (.o .h)))))), 0, true⟩,
    ⟨(some (.i (.i (.o (.i (.o .h)))))), none, .nilc (.s (.i (.o (.i (.o (.o .h)))))), 0, true⟩,
    ⟨(some (.o (.o (.i (.i (.o .h)))))), none, .lea 4 (.s (.i (.i (.o (.i (.o .h)))))), 0, true⟩,
    ⟨none, none, .store 1 (.s (.o (.o (.i (.i (.o .h)))))) (.s (.o (.i (.o (.i (.o .h)))))), 0, true⟩] 0)
   (.seq (.reg [⟨(some (.i (.o (.i (.i (.o .h)))))), none, .build [(.int .u64 0), (.int .u64 0), (.int .u64 0), (.int .u64 0)] [(0, 1, (.c (.int .u64 1)))], 0, true⟩,
    ⟨(some (.i (.i .h))), none, .alloc [(.int .u64 0), (.int .u64 0), (.int .u64 0), (.int .u64 0)], 0, true⟩,
    ⟨none, none, .store 4 (.s (.i (.i .h))) (.s (.i (.o (.i (.i (.o .h)))))), 0, true⟩] 0)
   (.seq (.seq (.reg [⟨(some (.o (.i (.i (.i (.o .h)))))), none, .mov (.c (.int .i64 0)), 0, true⟩] 0)
   (.block 2 (.loop (.seq (.reg [⟨(some (.i (.i (.i (.i (.o .h)))))), none, .bin .lss (.s (.o (.i (.i (.i (.o .h)))))) (.c (.int .i64 512)), 0, true⟩] 0)
   (.seq (.cond (.s (.i (.i (.i (.i (.o .h))))))
   .skip
   (.exit 2))
   (.seq (.block 3 (.seq (.reg [⟨(some (.o (.o (.o (.o (.i .h)))))), none, .mov (.s (.o (.i (.i (.i (.o .h)))))), 0, true⟩,
    ⟨(some (.o (.o (.o .h)))), none, .mov (.s (.o (.o (.o (.o (.i .h)))))), 0, true⟩] 0)
   (.seq (.seq (.reg [⟨(some (.i (.o (.o (.o (.i .h)))))), none, .mov (.s (.o (.o (.o .h)))), 0, true⟩,
    ⟨(some (.o (.i (.o (.o (.i .h)))))), none, .bin .eql (.s (.i (.o (.o (.o (.i .h)))))) (.c (.int .i64 256)), 0, true⟩] 0)
   (.cond (.s (.o (.i (.o (.o (.i .h))))))
   (.reg [⟨(some (.i (.i (.o (.o (.i .h)))))), none, .mov (.s (.o (.i .h))), 0, true⟩,
    ⟨(some (.o (.o (.i (.o (.i .h)))))), none, .load true 4 (.s (.i (.i .h))), 0, true⟩,
    ⟨(some (.i (.o (.i (.o (.i .h)))))), none, .nilc (.s (.i (.i (.o (.o (.i .h)))))), 0, true⟩,
    ⟨(some (.o (.i (.i (.o (.i .h)))))), none, .lea 5 (.s (.i (.o (.i (.o (.i .h)))))), 0, true⟩,
    ⟨none, none, .store 4 (.s (.o (.i (.i (.o (.i .h)))))) (.s (.o (.o (.i (.o (.i .h)))))), 0, true⟩] 0)
   .skip))
   (.reg [⟨(some (.i (.i (.i (.o (.i .h)))))), none, .mov (.s (.o (.i .h))), 0, true⟩,
    ⟨(some (.o (.o (.o (.i (.i .h)))))), none, .load true 4 (.s (.i (.i .h))), 0, true⟩,
    ⟨(some (.i (.o (.o (.i (.i .h)))))), none, .load true 4 (.s (.i (.i .h))), 0, true⟩,
    ⟨(some (.o (.i (.o (.i (.i .h)))))), none, .call (.o (.i (.i (.o (.o (.o .h)))))) [(.s (.i (.i (.i (.o (.i .h)))))), (.s (.o (.o (.o (.i (.i .h)))))), (.s (.i (.o (.o (.i (.i .h))))))], 0, true⟩,
    ⟨none, none, .store 4 (.s (.i (.i .h))) (.s (.o (.i (.o (.i (.i .h)))))), 0, true⟩] 0))))
   (.reg [⟨(some (.i (.i (.o (.i (.i .h)))))), none, .bin .add (.s (.o (.i (.i (.i (.o .h)))))) (.c (.int .i64 1)), 0, true⟩,
    ⟨(some (.o (.i (.i (.i (.o .h)))))), none, .mov (.s (.i (.i (.o (.i (.i .h)))))), 0, true⟩] 0)))))))
   (.seq (.reg [⟨(some (.o (.o (.i (.i (.i .h)))))), none, .mov (.s (.o (.i .h))), 0, true⟩,
    ⟨(some (.i (.o (.i (.i (.i .h)))))), none, .load true 4 (.s (.i (.i .h))), 0, true⟩,
    ⟨(some (.o (.i (.i (.i (.i .h)))))), none, .nilc (.s (.o (.o (.i (.i (.i .h)))))), 0, true⟩,
    ⟨(some (.i (.i (.i (.i (.i .h)))))), none, .lea 9 (.s (.o (.i (.i (.i (.i .h)))))), 0, true⟩,
    ⟨none, none, .store 4 (.s (.i (.i (.i (.i (.i .h)))))) (.s (.i (.o (.i (.i (.i .h)))))), 0, true⟩] 0)
   (.seq (.reg [⟨(some (.o (.o (.o (.o (.o (.o .h))))))), none, .mov (.s (.o (.i .h))), 0, true⟩,
    ⟨(some (.i .h)), none, .mov (.s (.o (.o (.o (.o (.o (.o .h))))))), 0, true⟩] 0)
   .ret)))))))))) }

/-- (*halberd/num.Field).Read -/
noncomputable def d57 : Go.AE.Fd := { np := 2, res := [.cell (.i (.o .h)) true 4, .tmp (.o (.i .h))], code :=
   (.seq (.reg [⟨(some (.i (.o .h))), none, .alloc [(.int .u64 0), (.int .u64 0), (.int .u64 0), (.int .u64 0)], 0, true⟩,
    ⟨(some (.o (.i .h))), none, .mov (.c (.bool false)), 0, true⟩] 0)
   (.seq (.seq (.reg [⟨(some (.o (.o (.o .h)))), none, .mov (.s (.o .h)), 0, true⟩,
    ⟨(some (.i (.o (.o .h)))), none, .lenS (.s (.o (.o (.o .h)))), 0, true⟩,
    ⟨(some (.o (.i (.o .h)))), none, .bin .neq (.s (.i (.o (.o .h)))) (.c (.int .i64 32)), 0, true⟩] 0)
   (.cond (.s (.o (.i (.o .h))))
   (.seq (.reg [⟨(some (.i (.i (.o .h)))), none, .build [(.int .u64 0), (.int .u64 0), (.int .u64 0), (.int .u64 0)] [], 0, true⟩,
    ⟨none, none, .store 4 (.s (.i (.o .h))) (.s (.i (.i (.o .h)))), 0, true⟩,
    ⟨(some (.o (.i .h))), none, .mov (.c (.bool false)), 0, true⟩] 0)
   .ret)
   .skip))
   (.seq (.reg [⟨(some (.o (.o (.i .h)))), none, .mov (.s (.o .h)), 0, true⟩,
    ⟨(some (.i (.o (.i .h)))), none, .call (.i (.i (.i (.o (.o (.o .h)))))) [(.s (.o (.o (.i .h))))], 0, true⟩,
    ⟨(some (.i (.i .h))), none, .alloc [(.int .u64 0), (.int .u64 0), (.int .u64 0), (.int .u64 0)], 0, true⟩,
    ⟨none, none, .store 4 (.s (.i (.i .h))) (.s (.i (.o (.i .h)))), 0, true⟩] 0)
   (.seq (.reg [⟨(some (.o (.i (.i .h)))), none, .load true 4 (.s (.i (.i .h))), 0, false⟩,
    ⟨(some (.i (.i (.i .h)))), none, .load true 4 (.s (.i (.i .h))), 0, false⟩,
    ⟨(some (.o (.o (.o (.o .h))))), none, .mov (.s .h), 0, false⟩,
    ⟨(some (.i (.o (.o (.o .h))))), none, .nilc (.s (.o (.o (.o (.o .h))))), 0, false⟩,
    ⟨(some (.o (.i (.o (.o .h))))), none, .lea 0 (.s (.i (.o (.o (.o .h))))), 0, false⟩,
    ⟨(some (.i (.i (.o (.o .h))))), none, .load true 4 (.s (.o (.i (.o (.o .h))))), 0, false⟩,
    ⟨(some (.o (.o (.i (.o .h))))), none, .call (.o (.o (.o (.i (.o (.o .h)))))) [(.s (.i (.i (.i .h)))), (.s (.i (.i (.o (.o .h)))))], 0, false⟩,
    ⟨none, none, .store 4 (.s (.i (.o .h))) (.s (.o (.i (.i .h)))), 0, false⟩,
    ⟨(some (.o (.i .h))), none, .mov (.s (.o (.o (.i (.o .h))))), 0, false⟩] 0)
   .ret)))) }

/-- (halberd/num.Nat).Zero -/
noncomputable def d58 : Go.AE.Fd := { np := 1, res := [.tmp (.i .h)], code :=
   (.seq (.reg [⟨(some (.o .h)), none, .box (.s .h), 0, true⟩,
    ⟨(some (.i .h)), none, .mov (.c (.bool false)), 0, true⟩] 0)
   (.seq (.reg [⟨(some (.o (.o .h))), none, .load true 4 (.s (.o .h)), 0, true⟩,
    ⟨(some (.i (.o .h))), none, .build [(.int .u64 0), (.int .u64 0), (.int .u64 0), (.int .u64 0)] [], 0, true⟩,
    ⟨(some (.o (.i .h))), none, .eqs false [.i, .i, .i, .i] (.s (.o (.o .h))) (.s (.i (.o .h))), 0, true⟩,
    ⟨(some (.i .h)), none, .mov (.s (.o (.i .h))), 0, true⟩] 0)
   .ret)) }

/-- halberd/halberdref4.double -/
noncomputable def d62 : Go.AE.Fd := { np := 1, res := [.tmp (.i .h)], code :=
   (.seq (.reg [⟨(some (.i .h)), none, .mov (.c (.int .u8 0)), 0, true⟩] 0)
   (.seq (.seq (.reg [⟨(some (.o (.o .h))), none, .mov (.s .h), 0, true⟩,
    ⟨(some (.i (.o .h))), none, .bin .gtr (.s (.o (.o .h))) (.c (.int .u8 127)), 0, true⟩] 0)
   (.cond (.s (.i (.o .h)))
   (.seq (.reg [⟨(some (.o (.i .h))), none, .mov (.s .h), 0, true⟩,
    ⟨(some (.i (.i .h))), none, .bin .shl (.s (.o (.i .h))) (.c (.int .u64 1)), 0, true⟩,
    ⟨(some (.o (.o (.o .h)))), none, .bin .xor (.s (.i (.i .h))) (.c (.int .u8 27)), 0, true⟩,
    ⟨(some (.i .h)), none, .mov (.s (.o (.o (.o .h)))), 0, true⟩] 0)
   .ret)
   .skip))
   (.seq (.reg [⟨(some (.i (.o (.o .h)))), none, .mov (.s .h), 0, true⟩,
    ⟨(some (.o (.i (.o .h)))), none, .bin .shl (.s (.i (.o (.o .h)))) (.c (.int .u64 1)), 0, true⟩,
    ⟨(some (.i .h)), none, .mov (.s (.o (.i (.o .h)))), 0, true⟩] 0)
   .ret))) }

/-- halberd/halberdref4.cipher -/
noncomputable def d63 : Go.AE.Fd := { np := 2, res := [.tmp (.i (.o .h))], code :=
   (.seq (.reg [⟨(some (.i (.o .h))), none, .mov (.c (.str [])), 0, true⟩] 0)
   (.seq (.reg [⟨(some (.o (.i .h))), none, .alloc [(.int .u8 0), (.int .u8 0), (.int .u8 0), (.int .u8 0), (.int .u8 0), (.int .u8 0), (.int .u8 0), (.int .u8 0), (.int .u8 0), (.int .u8 0), (.int .u8 0), (.int .u8 0), (.int .u8 0), (.int .u8 0), (.int .u8 0), (.int .u8 0)], 0, true⟩] 0)
   (.seq (.seq (.reg [⟨(some (.i (.i .h))), none, .mov (.c (.int .i64 0)), 0, true⟩] 0)
   (.block 0 (.loop (.seq (.seq (.reg [⟨(some (.i (.o (.o (.o .h))))), none, .mov (.s (.i (.i .h))), 0, true⟩,
    ⟨(some (.o (.i (.o (.o .h))))), none, .bin .lss (.s (.i (.o (.o (.o .h))))) (.c (.int .i64 16)), 0, true⟩] 0)
   (.cond (.s (.o (.i (.o (.o .h)))))
   .skip
   (.exit 0)))
   (.seq (.block 1 (.reg [⟨(some (.i (.o (.i (.o .h))))), none, .mov (.s (.i (.i .h))), 0, false⟩,
    ⟨(some (.o (.i (.i (.o .h))))), none, .mov (.s (.o .h)), 0, false⟩,
    ⟨(some (.i (.i (.i (.o .h))))), none, .mov (.s (.i (.i .h))), 0, false⟩,
    ⟨(some (.o (.o (.o (.i .h))))), none, .ixStr (.s (.o (.i (.i (.o .h))))) (.s (.i (.i (.i (.o .h))))), 0, false⟩,
    ⟨(some (.i (.o (.o (.i .h))))), none, .mov (.s .h), 0, false⟩,
    ⟨(some (.o (.i (.o (.i .h))))), none, .mov (.s (.i (.i .h))), 0, false⟩,
    ⟨(some (.i (.i (.o (.i .h))))), none, .bin .quo (.s (.o (.i (.o (.i .h))))) (.c (.int .i64 4)), 0, false⟩,
    ⟨(some (.o (.o (.i (.i .h))))), none, .mov (.s (.i (.i .h))), 0, false⟩,
    ⟨(some (.i (.o (.i (.i .h))))), none, .bin .rem (.s (.o (.o (.i (.i .h))))) (.c (.int .i64 4)), 0, false⟩,
    ⟨(some (.o (.i (.i (.i .h))))), none, .ixS 4 (.s (.i (.o (.o (.i .h))))) (.s (.i (.i (.o (.i .h))))), 0, false⟩,
    ⟨(some (.i (.i (.i (.i .h))))), none, .ixA 4 1 (.s (.o (.i (.i (.i .h))))) (.s (.i (.o (.i (.i .h))))), 0, false⟩,
    ⟨(some (.o (.o (.o (.o (.o .h)))))), none, .load false 1 (.s (.i (.i (.i (.i .h))))), 0, false⟩,
    ⟨(some (.i (.o (.o (.o (.o .h)))))), none, .bin .xor (.s (.o (.o (.o (.i .h))))) (.s (.o (.o (.o (.o (.o .h)))))), 0, false⟩,
    ⟨(some (.o (.i (.o (.o (.o .h)))))), none, .ixA 16 1 (.s (.o (.i .h))) (.s (.i (.o (.i (.o .h))))), 0, false⟩,
    ⟨none, none, .store 1 (.s (.o (.i (.o (.o (.o .h)))))) (.s (.i (.o (.o (.o (.o .h)))))), 0, false⟩] 0))
   (.reg [⟨(some (.i (.i (.o (.o .h))))), none, .mov (.s (.i (.i .h))), 0, true⟩,
    ⟨(some (.o (.o (.i (.o .h))))), none, .bin .add (.s (.i (.i (.o (.o .h))))) (.c (.int .i64 1)), 0, true⟩,
    ⟨(some (.i (.i .h))), none, .mov (.s (.o (.o (.i (.o .h))))), 0, true⟩] 0))))))
   (.seq (.reg [⟨(some (.i (.i (.o (.o (.o .h)))))), none, .mov (.s .h), 0, true⟩,
    ⟨(some (.o (.o (.i (.o (.o .h)))))), none, .len (.s (.i (.i (.o (.o (.o .h)))))), 0, true⟩,
    ⟨(some (.i (.o (.i (.o (.o .h)))))), none, .bin .quo (.s (.o (.o (.i (.o (.o .h)))))) (.c (.int .i64 4)), 0, true⟩,
    ⟨(some (.o (.i (.i (.o (.o .h)))))), none, .bin .sub (.s (.i (.o (.i (.o (.o .h)))))) (.c (.int .i64 1)), 0, true⟩,
    ⟨(some (.o (.o (.o .h)))), none, .mov (.s (.o (.i (.i (.o (.o .h)))))), 0, true⟩] 0)
   (.seq (.seq (.reg [⟨(some (.i (.o (.o .h)))), none, .mov (.c (.int .i64 1)), 0, true⟩] 0)
   (.block 2 (.loop (.seq (.seq (.reg [⟨(some (.i (.i (.i (.o (.o .h)))))), none, .mov (.s (.i (.o (.o .h)))), 0, true⟩,
    ⟨(some (.o (.o (.o (.i (.o .h)))))), none, .mov (.s (.o (.o (.o .h)))), 0, true⟩,
    ⟨(some (.i (.o (.o (.i (.o .h)))))), none, .bin .leq (.s (.i (.i (.i (.o (.o .h)))))) (.s (.o (.o (.o (.i (.o .h)))))), 0, true⟩] 0)
   (.cond (.s (.i (.o (.o (.i (.o .h))))))
   .skip
   (.exit 2)))
   (.seq (.block 3 (.seq (.reg [⟨(some (.o (.i (.o .h)))), none, .alloc [(.int .u8 0), (.int .u8 0), (.int .u8 0), (.int .u8 0), (.int .u8 0), (.int .u8 0), (.int .u8 0), (.int .u8 0), (.int .u8 0), (.int .u8 0), (.int .u8 0), (.int .u8 0), (.int .u8 0), (.int .u8 0), (.int .u8 0), (.int .u8 0)], 0, true⟩] 0)
   (.seq (.seq (.reg [⟨(some (.i (.i (.o .h)))), none, .mov (.c (.int .i64 0)), 0, true⟩] 0)
   (.block 4 (.loop (.seq (.seq (.reg [⟨(some (.o (.o (.i (.i (.o .h)))))), none, .mov (.s (.i (.i (.o .h)))), 0, true⟩,
    ⟨(some (.i (.o (.i (.i (.o .h)))))), none, .bin .lss (.s (.o (.o (.i (.i (.o .h)))))) (.c (.int .i64 16)), 0, true⟩] 0)
   (.cond (.s (.i (.o (.i (.i (.o .h))))))
   .skip
   (.exit 4)))
   (.seq (.block 5 (.reg [⟨(some (.o (.o (.o (.o (.i .h)))))), none, .mov (.s (.i (.i (.o .h)))), 0, true⟩,
    ⟨(some (.i (.o (.o (.o (.i .h)))))), none, .mov (.s (.i (.i (.o .h)))), 0, true⟩,
    ⟨(some (.o (.i (.o (.o (.i .h)))))), none, .mov (.s (.i (.i (.o .h)))), 0, true⟩,
    ⟨(some (.i (.i (.o (.o (.i .h)))))), none, .bin .rem (.s (.o (.i (.o (.o (.i .h)))))) (.c (.int .i64 4)), 0, true⟩,
    ⟨(some (.o (.o (.i (.o (.i .h)))))), none, .bin .mul (.c (.int .i64 4)) (.s (.i (.i (.o (.o (.i .h)))))), 0, true⟩,
    ⟨(some (.i (.o (.i (.o (.i .h)))))), none, .bin .add (.s (.i (.o (.o (.o (.i .h)))))) (.s (.o (.o (.i (.o (.i .h)))))), 0, true⟩,
    ⟨(some (.o (.i (.i (.o (.i .h)))))), none, .bin .rem (.s (.i (.o (.i (.o (.i .h)))))) (.c (.int .i64 16)), 0, true⟩,
    ⟨(some (.i (.i (.i (.o (.i .h)))))), none, .ixA 16 1 (.s (.o (.i .h))) (.s (.o (.i (.i (.o (.i .h)))))), 0, true⟩,
    ⟨(some (.o (.o (.o (.i (.i .h)))))), none, .load false 1 (.s (.i (.i (.i (.o (.i .h)))))), 0, true⟩,
    ⟨(some (.i (.o (.o (.i (.i .h)))))), none, .ixStr (.c (.str [99, 124, 119, 123, 242, 107, 111, 197, 48, 1, 103, 43, 254, 215, 171, 118, 202, 130, 201, 125, 250, 89, 71, 240, 173, 212, 162, 175, 156, 164, 114, 192, 183, 253, 147, 38, 54, 63, 247, 204, 52, 165, 229, 241, 113, 216, 49, 21, 4, 199, 35, 195, 24, 150, 5, 154, 7, 18, 128, 226, 235, 39, 178, 117, 9, 131, 44, 26, 27, 110, 90, 160, 82, 59, 214, 179, 41, 227, 47, 132, 83, 209, 0, 237, 32, 252, 177, 91, 106, 203, 190, 57, 74, 76, 88, 207, 208, 239, 170, 251, 67, 77, 51, 133, 69, 249, 2, 127, 80, 60, 159, 168, 81, 163, 64, 143, 146, 157, 56, 245, 188, 182, 218, 33, 16, 255, 243, 210, 205, 12, 19, 236, 95, 151, 68, 23, 196, 167, 126, 61, 100, 93, 25, 115, 96, 129, 79, 220, 34, 42, 144, 136, 70, 238, 184, 20, 222, 94, 11, 219, 224, 50, 58, 10, 73, 6, 36, 92, 194, 211, 172, 98, 145, 149, 228, 121, 231, 200, 55, 109, 141, 213, 78, 169, 108, 86, 244, 234, 101, 122, 174, 8, 186, 120, 37, 46, 28, 166, 180, 198, 232, 221, 116, 31, 75, 189, 139, 138, 112, 62, 181, 102, 72, 3, 246, 14, 97, 53, 87, 185, 134, 193, 29, 158, 225, 248, 152, 17, 105, 217, 142, 148, 155, 30, 135, 233, 206, 85, 40, 223, 140, 161, 137, 13, 191, 230, 66, 104, 65, 153, 45, 15, 176, 84, 187, 22])) (.s (.o (.o (.o (.i (.i .h)))))), 0, true⟩,
    ⟨(some (.o (.i (.o (.i (.i .h)))))), none, .ixA 16 1 (.s (.o (.i (.o .h)))) (.s (.o (.o (.o (.o (.i .h)))))), 0, true⟩,
    ⟨none, none, .store 1 (.s (.o (.i (.o (.i (.i .h)))))) (.s (.i (.o (.o (.i (.i .h)))))), 0, true⟩] 0))
   (.reg [⟨(some (.o (.i (.i (.i (.o .h)))))), none, .mov (.s (.i (.i (.o .h)))), 0, true⟩,
    ⟨(some (.i (.i (.i (.i (.o .h)))))), none, .bin .add (.s (.o (.i (.i (.i (.o .h)))))) (.c (.int .i64 1)), 0, true⟩,
    ⟨(some (.i (.i (.o .h)))), none, .mov (.s (.i (.i (.i (.i (.o .h)))))), 0, true⟩] 0))))))
   (.seq (.seq (.reg [⟨(some (.i (.i (.o (.i (.i .h)))))), none, .mov (.s (.i (.o (.o .h)))), 0, true⟩,
    ⟨(some (.o (.o (.i (.i (.i .h)))))), none, .mov (.s (.o (.o (.o .h)))), 0, true⟩,
    ⟨(some (.i (.o (.i (.i (.i .h)))))), none, .bin .lss (.s (.i (.i (.o (.i (.i .h)))))) (.s (.o (.o (.i (.i (.i .h)))))), 0, true⟩] 0)
   (.cond (.s (.i (.o (.i (.i (.i .h))))))
   (.seq (.reg [⟨(some (.o (.o (.i .h)))), none, .mov (.c (.int .i64 0)), 0, true⟩] 0)
   (.block 6 (.loop (.seq (.seq (.reg [⟨(some (.o (.i (.i (.i (.i .h)))))), none, .mov (.s (.o (.o (.i .h)))), 0, true⟩,
    ⟨(some (.i (.i (.i (.i (.i .h)))))), none, .bin .lss (.s (.o (.i (.i (.i (.i .h)))))) (.c (.int .i64 16)), 0, true⟩] 0)
   (.cond (.s (.i (.i (.i (.i (.i .h))))))
   .skip
   (.exit 6)))
   (.seq (.block 7 (.seq (.reg [⟨(some (.o (.i (.o (.o (.o (.o .h))))))), none, .mov (.s (.o (.o (.i .h)))), 0, false⟩,
    ⟨(some (.i (.i (.o (.o (.o (.o .h))))))), none, .ixA 16 1 (.s (.o (.i (.o .h)))) (.s (.o (.i (.o (.o (.o (.o .h))))))), 0, false⟩,
    ⟨(some (.o (.o (.i (.o (.o (.o .h))))))), none, .load false 1 (.s (.i (.i (.o (.o (.o (.o .h))))))), 0, false⟩,
    ⟨(some (.i (.o (.i (.o (.o (.o .h))))))), none, .mov (.s (.o (.o (.i .h)))), 0, false⟩,
    ⟨(some (.o (.i (.i (.o (.o (.o .h))))))), none, .bin .add (.s (.i (.o (.i (.o (.o (.o .h))))))) (.c (.int .i64 1)), 0, false⟩,
    ⟨(some (.i (.i (.i (.o (.o (.o .h))))))), none, .ixA 16 1 (.s (.o (.i (.o .h)))) (.s (.o (.i (.i (.o (.o (.o .h))))))), 0, false⟩,
    ⟨(some (.o (.o (.o (.i (.o (.o .h))))))), none, .load false 1 (.s (.i (.i (.i (.o (.o (.o .h))))))), 0, false⟩,
    ⟨(some (.i (.o (.o (.i (.o (.o .h))))))), none, .bin .xor (.s (.o (.o (.i (.o (.o (.o .h))))))) (.s (.o (.o (.o (.i (.o (.o .h))))))), 0, false⟩,
    ⟨(some (.o (.i (.o (.i (.o (.o .h))))))), none, .mov (.s (.o (.o (.i .h)))), 0, false⟩,
    ⟨(some (.i (.i (.o (.i (.o (.o .h))))))), none, .bin .add (.s (.o (.i (.o (.i (.o (.o .h))))))) (.c (.int .i64 2)), 0, false⟩,
    ⟨(some (.o (.o (.i (.i (.o (.o .h))))))), none, .ixA 16 1 (.s (.o (.i (.o .h)))) (.s (.i (.i (.o (.i (.o (.o .h))))))), 0, false⟩,
    ⟨(some (.i (.o (.i (.i (.o (.o .h))))))), none, .load false 1 (.s (.o (.o (.i (.i (.o (.o .h))))))), 0, false⟩,
    ⟨(some (.o (.i (.i (.i (.o (.o .h))))))), none, .bin .xor (.s (.i (.o (.o (.i (.o (.o .h))))))) (.s (.i (.o (.i (.i (.o (.o .h))))))), 0, false⟩,
    ⟨(some (.i (.i (.i (.i (.o (.o .h))))))), none, .mov (.s (.o (.o (.i .h)))), 0, false⟩,
    ⟨(some (.o (.o (.o (.o (.i (.o .h))))))), none, .bin .add (.s (.i (.i (.i (.i (.o (.o .h))))))) (.c (.int .i64 3)), 0, false⟩,
    ⟨(some (.i (.o (.o (.o (.i (.o .h))))))), none, .ixA 16 1 (.s (.o (.i (.o .h)))) (.s (.o (.o (.o (.o (.i (.o .h))))))), 0, false⟩,
    ⟨(some (.o (.i (.o (.o (.i (.o .h))))))), none, .load false 1 (.s (.i (.o (.o (.o (.i (.o .h))))))), 0, false⟩,
    ⟨(some (.i (.i (.o (.o (.i (.o .h))))))), none, .bin .xor (.s (.o (.i (.i (.i (.o (.o .h))))))) (.s (.o (.i (.o (.o (.i (.o .h))))))), 0, false⟩,
    ⟨(some (.i (.o (.i .h)))), none, .mov (.s (.i (.i (.o (.o (.i (.o .h))))))), 0, false⟩] 0)
   (.seq (.reg [⟨(some (.o (.o (.i (.o (.i (.o .h))))))), none, .mov (.s (.o (.o (.i .h)))), 0, true⟩,
    ⟨(some (.i (.o (.i (.o (.i (.o .h))))))), none, .ixA 16 1 (.s (.o (.i (.o .h)))) (.s (.o (.o (.i (.o (.i (.o .h))))))), 0, true⟩,
    ⟨(some (.o (.i (.i (.o (.i (.o .h))))))), none, .load false 1 (.s (.i (.o (.i (.o (.i (.o .h))))))), 0, true⟩,
    ⟨(some (.o (.i (.i .h)))), none, .mov (.s (.o (.i (.i (.o (.i (.o .h))))))), 0, true⟩] 0)
   (.seq (.seq (.reg [⟨(some (.i (.i (.i .h)))), none, .mov (.c (.int .i64 0)), 0, true⟩] 0)
   (.block 8 (.loop (.seq (.seq (.reg [⟨(some (.i (.i (.i (.o (.i (.o .h))))))), none, .mov (.s (.i (.i (.i .h)))), 0, true⟩,
    ⟨(some (.o (.o (.o (.i (.i (.o .h))))))), none, .bin .lss (.s (.i (.i (.i (.o (.i (.o .h))))))) (.c (.int .i64 3)), 0, true⟩] 0)
   (.cond (.s (.o (.o (.o (.i (.i (.o .h)))))))
   .skip
   (.exit 8)))
   (.seq (.block 9 (.reg [⟨(some (.i (.i (.o (.i (.i (.o .h))))))), none, .mov (.s (.o (.o (.i .h)))), 0, false⟩,
    ⟨(some (.o (.o (.i (.i (.i (.o .h))))))), none, .mov (.s (.i (.i (.i .h)))), 0, false⟩,
    ⟨(some (.i (.o (.i (.i (.i (.o .h))))))), none, .bin .add (.s (.i (.i (.o (.i (.i (.o .h))))))) (.s (.o (.o (.i (.i (.i (.o .h))))))), 0, false⟩,
    ⟨(some (.o (.i (.i (.i (.i (.o .h))))))), none, .mov (.s (.o (.o (.i .h)))), 0, false⟩,
    ⟨(some (.i (.i (.i (.i (.i (.o .h))))))), none, .mov (.s (.i (.i (.i .h)))), 0, false⟩,
    ⟨(some (.o (.o (.o (.o (.o (.i .h))))))), none, .bin .add (.s (.o (.i (.i (.i (.i (.o .h))))))) (.s (.i (.i (.i (.i (.i (.o .h))))))), 0, false⟩,
    ⟨(some (.i (.o (.o (.o (.o (.i .h))))))), none, .ixA 16 1 (.s (.o (.i (.o .h)))) (.s (.o (.o (.o (.o (.o (.i .h))))))), 0, false⟩,
    ⟨(some (.o (.i (.o (.o (.o (.i .h))))))), none, .load false 1 (.s (.i (.o (.o (.o (.o (.i .h))))))), 0, false⟩,
    ⟨(some (.i (.i (.o (.o (.o (.i .h))))))), none, .mov (.s (.i (.o (.i .h)))), 0, false⟩,
    ⟨(some (.o (.o (.i (.o (.o (.i .h))))))), none, .bin .xor (.s (.o (.i (.o (.o (.o (.i .h))))))) (.s (.i (.i (.o (.o (.o (.i .h))))))), 0, false⟩,
    ⟨(some (.i (.o (.i (.o (.o (.i .h))))))), none, .mov (.s (.o (.o (.i .h)))), 0, false⟩,
    ⟨(some (.o (.i (.i (.o (.o (.i .h))))))), none, .mov (.s (.i (.i (.i .h)))), 0, false⟩,
    ⟨(some (.i (.i (.i (.o (.o (.i .h))))))), none, .bin .add (.s (.i (.o (.i (.o (.o (.i .h))))))) (.s (.o (.i (.i (.o (.o (.i .h))))))), 0, false⟩,
    ⟨(some (.o (.o (.o (.i (.o (.i .h))))))), none, .ixA 16 1 (.s (.o (.i (.o .h)))) (.s (.i (.i (.i (.o (.o (.i .h))))))), 0, false⟩,
    ⟨(some (.i (.o (.o (.i (.o (.i .h))))))), none, .load false 1 (.s (.o (.o (.o (.i (.o (.i .h))))))), 0, false⟩,
    ⟨(some (.o (.i (.o (.i (.o (.i .h))))))), none, .mov (.s (.o (.o (.i .h)))), 0, false⟩,
    ⟨(some (.i (.i (.o (.i (.o (.i .h))))))), none, .mov (.s (.i (.i (.i .h)))), 0, false⟩,
    ⟨(some (.o (.o (.i (.i (.o (.i .h))))))), none, .bin .add (.s (.o (.i (.o (.i (.o (.i .h))))))) (.s (.i (.i (.o (.i (.o (.i .h))))))), 0, false⟩,
    ⟨(some (.i (.o (.i (.i (.o (.i .h))))))), none, .bin .add (.s (.o (.o (.i (.i (.o (.i .h))))))) (.c (.int .i64 1)), 0, false⟩,
    ⟨(some (.o (.i (.i (.i (.o (.i .h))))))), none, .ixA 16 1 (.s (.o (.i (.o .h)))) (.s (.i (.o (.i (.i (.o (.i .h))))))), 0, false⟩,
    ⟨(some (.i (.i (.i (.i (.o (.i .h))))))), none, .load false 1 (.s (.o (.i (.i (.i (.o (.i .h))))))), 0, false⟩,
    ⟨(some (.o (.o (.o (.o (.i (.i .h))))))), none, .bin .xor (.s (.i (.o (.o (.i (.o (.i .h))))))) (.s (.i (.i (.i (.i (.o (.i .h))))))), 0, false⟩,
    ⟨(some (.i (.o (.o (.o (.i (.i .h))))))), none, .call (.i (.i (.i (.i (.i .h))))) [(.s (.o (.o (.o (.o (.i (.i .h)))))))], 0, false⟩,
    ⟨(some (.o (.i (.o (.o (.i (.i .h))))))), none, .bin .xor (.s (.o (.o (.i (.o (.o (.i .h))))))) (.s (.i (.o (.o (.o (.i (.i .h))))))), 0, false⟩,
    ⟨(some (.i (.i (.o (.o (.i (.i .h))))))), none, .ixA 16 1 (.s (.o (.i (.o .h)))) (.s (.i (.o (.i (.i (.i (.o .h))))))), 0, false⟩,
    ⟨none, none, .store 1 (.s (.i (.i (.o (.o (.i (.i .h))))))) (.s (.o (.i (.o (.o (.i (.i .h))))))), 0, false⟩] 0))
   (.reg [⟨(some (.i (.o (.o (.i (.i (.o .h))))))), none, .mov (.s (.i (.i (.i .h)))), 0, true⟩,
    ⟨(some (.o (.i (.o (.i (.i (.o .h))))))), none, .bin .add (.s (.i (.o (.o (.i (.i (.o .h))))))) (.c (.int .i64 1)), 0, true⟩,
    ⟨(some (.i (.i (.i .h)))), none, .mov (.s (.o (.i (.o (.i (.i (.o .h))))))), 0, true⟩] 0))))))
   (.reg [⟨(some (.o (.o (.i (.o (.i (.i .h))))))), none, .mov (.s (.o (.o (.i .h)))), 0, false⟩,
    ⟨(some (.i (.o (.i (.o (.i (.i .h))))))), none, .bin .add (.s (.o (.o (.i (.o (.i (.i .h))))))) (.c (.int .i64 3)), 0, false⟩,
    ⟨(some (.o (.i (.i (.o (.i (.i .h))))))), none, .mov (.s (.o (.o (.i .h)))), 0, false⟩,
    ⟨(some (.i (.i (.i (.o (.i (.i .h))))))), none, .bin .add (.s (.o (.i (.i (.o (.i (.i .h))))))) (.c (.int .i64 3)), 0, false⟩,
    ⟨(some (.o (.o (.o (.i (.i (.i .h))))))), none, .ixA 16 1 (.s (.o (.i (.o .h)))) (.s (.i (.i (.i (.o (.i (.i .h))))))), 0, false⟩,
    ⟨(some (.i (.o (.o (.i (.i (.i .h))))))), none, .load false 1 (.s (.o (.o (.o (.i (.i (.i .h))))))), 0, false⟩,
    ⟨(some (.o (.i (.o (.i (.i (.i .h))))))), none, .mov (.s (.i (.o (.i .h)))), 0, false⟩,
    ⟨(some (.i (.i (.o (.i (.i (.i .h))))))), none, .bin .xor (.s (.i (.o (.o (.i (.i (.i .h))))))) (.s (.o (.i (.o (.i (.i (.i .h))))))), 0, false⟩,
    ⟨(some (.o (.o (.i (.i (.i (.i .h))))))), none, .mov (.s (.o (.o (.i .h)))), 0, false⟩,
    ⟨(some (.i (.o (.i (.i (.i (.i .h))))))), none, .bin .add (.s (.o (.o (.i (.i (.i (.i .h))))))) (.c (.int .i64 3)), 0, false⟩,
    ⟨(some (.o (.i (.i (.i (.i (.i .h))))))), none, .ixA 16 1 (.s (.o (.i (.o .h)))) (.s (.i (.o (.i (.i (.i (.i .h))))))), 0, false⟩,
    ⟨(some (.i (.i (.i (.i (.i (.i .h))))))), none, .load false 1 (.s (.o (.i (.i (.i (.i (.i .h))))))), 0, false⟩,
    ⟨(some (.o (.o (.o (.o (.o (.o (.o .h)))))))), none, .mov (.s (.o (.i (.i .h)))), 0, false⟩,
    ⟨(some (.i (.o (.o (.o (.o (.o (.o .h)))))))), none, .bin .xor (.s (.i (.i (.i (.i (.i (.i .h))))))) (.s (.o (.o (.o (.o (.o (.o (.o .h)))))))), 0, false⟩,
    ⟨(some (.o (.i (.o (.o (.o (.o (.o .h)))))))), none, .call (.i (.i (.i (.i (.i .h))))) [(.s (.i (.o (.o (.o (.o (.o (.o .h))))))))], 0, false⟩,
    ⟨(some (.i (.i (.o (.o (.o (.o (.o .h)))))))), none, .bin .xor (.s (.i (.i (.o (.i (.i (.i .h))))))) (.s (.o (.i (.o (.o (.o (.o (.o .h)))))))), 0, false⟩,
    ⟨(some (.o (.o (.i (.o (.o (.o (.o .h)))))))), none, .ixA 16 1 (.s (.o (.i (.o .h)))) (.s (.i (.o (.i (.o (.i (.i .h))))))), 0, false⟩,
    ⟨none, none, .store 1 (.s (.o (.o (.i (.o (.o (.o (.o .h)))))))) (.s (.i (.i (.o (.o (.o (.o (.o .h)))))))), 0, false⟩] 0)))))
   (.reg [⟨(some (.o (.o (.o (.o (.o (.o .h))))))), none, .mov (.s (.o (.o (.i .h)))), 0, true⟩,
    ⟨(some (.i (.o (.o (.o (.o (.o .h))))))), none, .bin .add (.s (.o (.o (.o (.o (.o (.o .h))))))) (.c (.int .i64 4)), 0, true⟩,
    ⟨(some (.o (.o (.i .h)))), none, .mov (.s (.i (.o (.o (.o (.o (.o .h))))))), 0, true⟩] 0))))))
   .skip))
   (.seq (.reg [⟨(some (.o (.o (.o (.o .h))))), none, .mov (.c (.int .i64 0)), 0, true⟩] 0)
   (.block 10 (.loop (.seq (.seq (.reg [⟨(some (.i (.o (.i (.o (.o (.o (.o .h)))))))), none, .mov (.s (.o (.o (.o (.o .h))))), 0, true⟩,
    ⟨(some (.o (.i (.i (.o (.o (.o (.o .h)))))))), none, .bin .lss (.s (.i (.o (.i (.o (.o (.o (.o .h)))))))) (.c (.int .i64 16)), 0, true⟩] 0)
   (.cond (.s (.o (.i (.i (.o (.o (.o (.o .h))))))))
   .skip
   (.exit 10)))
   (.seq (.block 11 (.reg [⟨(some (.i (.o (.o (.i (.o (.o (.o .h)))))))), none, .mov (.s (.o (.o (.o (.o .h))))), 0, false⟩,
    ⟨(some (.o (.i (.o (.i (.o (.o (.o .h)))))))), none, .mov (.s (.o (.o (.o (.o .h))))), 0, false⟩,
    ⟨(some (.i (.i (.o (.i (.o (.o (.o .h)))))))), none, .ixA 16 1 (.s (.o (.i (.o .h)))) (.s (.o (.i (.o (.i (.o (.o (.o .h)))))))), 0, false⟩,
    ⟨(some (.o (.o (.i (.i (.o (.o (.o .h)))))))), none, .load false 1 (.s (.i (.i (.o (.i (.o (.o (.o .h)))))))), 0, false⟩,
    ⟨(some (.i (.o (.i (.i (.o (.o (.o .h)))))))), none, .mov (.s .h), 0, false⟩,
    ⟨(some (.o (.i (.i (.i (.o (.o (.o .h)))))))), none, .mov (.s (.i (.o (.o .h)))), 0, false⟩,
    ⟨(some (.i (.i (.i (.i (.o (.o (.o .h)))))))), none, .bin .mul (.c (.int .i64 4)) (.s (.o (.i (.i (.i (.o (.o (.o .h)))))))), 0, false⟩,
    ⟨(some (.o (.o (.o (.o (.i (.o (.o .h)))))))), none, .mov (.s (.o (.o (.o (.o .h))))), 0, false⟩,
    ⟨(some (.i (.o (.o (.o (.i (.o (.o .h)))))))), none, .bin .quo (.s (.o (.o (.o (.o (.i (.o (.o .h)))))))) (.c (.int .i64 4)), 0, false⟩,
    ⟨(some (.o (.i (.o (.o (.i (.o (.o .h)))))))), none, .bin .add (.s (.i (.i (.i (.i (.o (.o (.o .h)))))))) (.s (.i (.o (.o (.o (.i (.o (.o .h)))))))), 0, false⟩,
    ⟨(some (.i (.i (.o (.o (.i (.o (.o .h)))))))), none, .mov (.s (.o (.o (.o (.o .h))))), 0, false⟩,
    ⟨(some (.o (.o (.i (.o (.i (.o (.o .h)))))))), none, .bin .rem (.s (.i (.i (.o (.o (.i (.o (.o .h)))))))) (.c (.int .i64 4)), 0, false⟩,
    ⟨(some (.i (.o (.i (.o (.i (.o (.o .h)))))))), none, .ixS 4 (.s (.i (.o (.i (.i (.o (.o (.o .h)))))))) (.s (.o (.i (.o (.o (.i (.o (.o .h)))))))), 0, false⟩,
    ⟨(some (.o (.i (.i (.o (.i (.o (.o .h)))))))), none, .ixA 4 1 (.s (.i (.o (.i (.o (.i (.o (.o .h)))))))) (.s (.o (.o (.i (.o (.i (.o (.o .h)))))))), 0, false⟩,
    ⟨(some (.i (.i (.i (.o (.i (.o (.o .h)))))))), none, .load false 1 (.s (.o (.i (.i (.o (.i (.o (.o .h)))))))), 0, false⟩,
    ⟨(some (.o (.o (.o (.i (.i (.o (.o .h)))))))), none, .bin .xor (.s (.o (.o (.i (.i (.o (.o (.o .h)))))))) (.s (.i (.i (.i (.o (.i (.o (.o .h)))))))), 0, false⟩,
    ⟨(some (.i (.o (.o (.i (.i (.o (.o .h)))))))), none, .ixA 16 1 (.s (.o (.i .h))) (.s (.i (.o (.o (.i (.o (.o (.o .h)))))))), 0, false⟩,
    ⟨none, none, .store 1 (.s (.i (.o (.o (.i (.i (.o (.o .h)))))))) (.s (.o (.o (.o (.i (.i (.o (.o .h)))))))), 0, false⟩] 0))
   (.reg [⟨(some (.i (.i (.i (.o (.o (.o (.o .h)))))))), none, .mov (.s (.o (.o (.o (.o .h))))), 0, true⟩,
    ⟨(some (.o (.o (.o (.i (.o (.o (.o .h)))))))), none, .bin .add (.s (.i (.i (.i (.o (.o (.o (.o .h)))))))) (.c (.int .i64 1)), 0, true⟩,
    ⟨(some (.o (.o (.o (.o .h))))), none, .mov (.s (.o (.o (.o (.i (.o (.o (.o .h)))))))), 0, true⟩] 0))))))))))
   (.reg [⟨(some (.o (.i (.o (.i (.o .h)))))), none, .mov (.s (.i (.o (.o .h)))), 0, true⟩,
    ⟨(some (.i (.i (.o (.i (.o .h)))))), none, .bin .add (.s (.o (.i (.o (.i (.o .h)))))) (.c (.int .i64 1)), 0, true⟩,
    ⟨(some (.i (.o (.o .h)))), none, .mov (.s (.i (.i (.o (.i (.o .h)))))), 0, true⟩] 0))))))
   (.seq (.reg [⟨(some (.o (.i (.o (.i (.i (.o (.o .h)))))))), none, .slArr 16 1 (.s (.o (.i .h))) none none, 0, true⟩,
    ⟨(some (.i (.i (.o (.i (.i (.o (.o .h)))))))), none, .b2s (.s (.o (.i (.o (.i (.i (.o (.o .h)))))))), 0, true⟩,
    ⟨(some (.i (.o .h))), none, .mov (.s (.i (.i (.o (.i (.i (.o (.o .h)))))))), 0, true⟩] 0)
   .ret)))))) }

/-- halberd/halberdref4.ghash -/
noncomputable def d64 : Go.AE.Fd := { np := 2, res := [.tmp (.i (.o .h))], code :=
   (.seq (.reg [⟨(some (.i (.o .h))), none, .mov (.c (.str [])), 0, true⟩] 0)
   (.seq (.reg [⟨(some (.o (.i (.i .h)))), none, .mov (.s .h), 0, true⟩,
    ⟨(some (.i (.i (.i .h)))), none, .call (.o (.i (.o (.i (.o (.o .h)))))) [(.s (.o (.i (.i .h))))], 0, true⟩,
    ⟨(some (.i (.o (.i .h)))), none, .mov (.s (.i (.i (.i .h)))), 0, true⟩,
    ⟨(some (.o (.o (.o (.o .h))))), none, .ext 0 (.s (.i (.o (.i .h)))), 0, true⟩,
    ⟨(some (.i (.o (.o (.o .h))))), none, .ext 1 (.s (.i (.o (.i .h)))), 0, true⟩,
    ⟨(some (.o (.i .h))), none, .mov (.s (.o (.o (.o (.o .h))))), 0, true⟩,
    ⟨(some (.i (.i .h))), none, .mov (.s (.i (.o (.o (.o .h))))), 0, true⟩] 0)
   (.seq (.reg [⟨(some (.o (.o (.o .h)))), none, .mov (.c (.int .u64 0)), 0, true⟩,
    ⟨(some (.i (.o (.o .h)))), none, .mov (.c (.int .u64 0)), 0, true⟩] 0)
   (.seq (.seq (.reg [⟨(some (.o (.i (.o .h)))), none, .mov (.c (.int .i64 0)), 0, true⟩] 0)
   (.block 0 (.loop (.seq (.seq (.reg [⟨(some (.o (.i (.o (.o .h))))), none, .mov (.s (.o (.i (.o .h)))), 0, true⟩,
    ⟨(some (.i (.i (.o (.o .h))))), none, .bin .add (.s (.o (.i (.o (.o .h))))) (.c (.int .i64 16)), 0, true⟩,
    ⟨(some (.o (.o (.i (.o .h))))), none, .mov (.s (.o .h)), 0, true⟩,
    ⟨(some (.i (.o (.i (.o .h))))), none, .lenS (.s (.o (.o (.i (.o .h))))), 0, true⟩,
    ⟨(some (.o (.i (.i (.o .h))))), none, .bin .leq (.s (.i (.i (.o (.o .h))))) (.s (.i (.o (.i (.o .h))))), 0, true⟩] 0)
   (.cond (.s (.o (.i (.i (.o .h)))))
   .skip
   (.exit 0)))
   (.seq (.block 1 (.seq (.reg [⟨(some (.o (.i (.o (.i .h))))), none, .mov (.s (.o .h)), 0, true⟩,
    ⟨(some (.i (.i (.o (.i .h))))), none, .mov (.s (.o (.i (.o .h)))), 0, true⟩,
    ⟨(some (.o (.o (.i (.i .h))))), none, .mov (.s (.o (.i (.o .h)))), 0, true⟩,
    ⟨(some (.i (.o (.i (.i .h))))), none, .bin .add (.s (.o (.o (.i (.i .h))))) (.c (.int .i64 16)), 0, true⟩,
    ⟨(some (.o (.i (.i (.i .h))))), none, .slStr (.s (.o (.i (.o (.i .h))))) (some (.s (.i (.i (.o (.i .h)))))) (some (.s (.i (.o (.i (.i .h)))))), 0, true⟩,
    ⟨(some (.i (.i (.i (.i .h))))), none, .call (.o (.i (.o (.i (.o (.o .h)))))) [(.s (.o (.i (.i (.i .h)))))], 0, true⟩,
    ⟨(some (.i (.o (.o (.i .h))))), none, .mov (.s (.i (.i (.i (.i .h))))), 0, true⟩,
    ⟨(some (.o (.o (.o (.o (.o .h)))))), none, .ext 0 (.s (.i (.o (.o (.i .h))))), 0, true⟩,
    ⟨(some (.i (.o (.o (.o (.o .h)))))), none, .ext 1 (.s (.i (.o (.o (.i .h))))), 0, true⟩,
    ⟨(some (.i (.i (.o .h)))), none, .mov (.s (.o (.o (.o (.o (.o .h)))))), 0, true⟩,
    ⟨(some (.o (.o (.i .h)))), none, .mov (.s (.i (.o (.o (.o (.o .h)))))), 0, true⟩] 0)
   (.reg [⟨(some (.i (.i (.o (.o (.o .h)))))), none, .mov (.s (.o (.o (.o .h)))), 0, true⟩,
    ⟨(some (.o (.o (.i (.o (.o .h)))))), none, .mov (.s (.i (.i (.o .h)))), 0, true⟩,
    ⟨(some (.i (.o (.i (.o (.o .h)))))), none, .bin .xor (.s (.i (.i (.o (.o (.o .h)))))) (.s (.o (.o (.i (.o (.o .h)))))), 0, true⟩,
    ⟨(some (.o (.i (.i (.o (.o .h)))))), none, .mov (.s (.i (.o (.o .h)))), 0, true⟩,
    ⟨(some (.i (.i (.i (.o (.o .h)))))), none, .mov (.s (.o (.o (.i .h)))), 0, true⟩,
    ⟨(some (.o (.o (.o (.i (.o .h)))))), none, .bin .xor (.s (.o (.i (.i (.o (.o .h)))))) (.s (.i (.i (.i (.o (.o .h)))))), 0, true⟩,
    ⟨(some (.i (.o (.o (.i (.o .h)))))), none, .mov (.s (.o (.i .h))), 0, true⟩,
    ⟨(some (.o (.i (.o (.i (.o .h)))))), none, .mov (.s (.i (.i .h))), 0, true⟩,
    ⟨(some (.i (.i (.o (.i (.o .h)))))), none, .call (.i (.i (.o (.i (.o (.o .h)))))) [(.s (.i (.o (.i (.o (.o .h)))))), (.s (.o (.o (.o (.i (.o .h)))))), (.s (.i (.o (.o (.i (.o .h)))))), (.s (.o (.i (.o (.i (.o .h))))))], 0, true⟩,
    ⟨(some (.o (.i (.o (.o (.o .h)))))), none, .mov (.s (.i (.i (.o (.i (.o .h)))))), 0, true⟩,
    ⟨(some (.o (.o (.i (.i (.o .h)))))), none, .ext 0 (.s (.o (.i (.o (.o (.o .h)))))), 0, true⟩,
    ⟨(some (.i (.o (.i (.i (.o .h)))))), none, .ext 1 (.s (.o (.i (.o (.o (.o .h)))))), 0, true⟩,
    ⟨(some (.o (.o (.o .h)))), none, .mov (.s (.o (.o (.i (.i (.o .h)))))), 0, true⟩,
    ⟨(some (.i (.o (.o .h)))), none, .mov (.s (.i (.o (.i (.i (.o .h)))))), 0, true⟩] 0)))
   (.reg [⟨(some (.i (.i (.i (.o .h))))), none, .mov (.s (.o (.i (.o .h)))), 0, true⟩,
    ⟨(some (.o (.o (.o (.i .h))))), none, .bin .add (.s (.i (.i (.i (.o .h))))) (.c (.int .i64 16)), 0, true⟩,
    ⟨(some (.o (.i (.o .h)))), none, .mov (.s (.o (.o (.o (.i .h))))), 0, true⟩] 0))))))
   (.seq (.reg [⟨(some (.o (.i (.i (.i (.o .h)))))), none, .mov (.s (.o (.o (.o .h)))), 0, true⟩,
    ⟨(some (.i (.i (.i (.i (.o .h)))))), none, .mov (.s (.i (.o (.o .h)))), 0, true⟩,
    ⟨(some (.o (.o (.o (.o (.i .h)))))), none, .call (.o (.o (.i (.i (.o (.o .h)))))) [(.s (.o (.i (.i (.i (.o .h)))))), (.s (.i (.i (.i (.i (.o .h))))))], 0, true⟩,
    ⟨(some (.i (.o .h))), none, .mov (.s (.o (.o (.o (.o (.i .h)))))), 0, true⟩] 0)
   .ret))))) }

/-- halberd/halberdref4.filled -/
noncomputable def d65 : Go.AE.Fd := { np := 1, res := [.tmp (.i .h)], code :=
   (.seq (.reg [⟨(some (.i .h)), none, .mov (.c (.str [])), 0, true⟩] 0)
   (.seq (.reg [⟨(some (.o (.o .h))), none, .mov (.s .h), 0, true⟩,
    ⟨(some (.i (.o .h))), none, .mov (.s .h), 0, true⟩,
    ⟨(some (.o (.i .h))), none, .lenS (.s (.i (.o .h))), 0, true⟩,
    ⟨(some (.i (.i .h))), none, .bin .rem (.s (.o (.i .h))) (.c (.int .i64 16)), 0, true⟩,
    ⟨(some (.o (.o (.o .h)))), none, .bin .sub (.c (.int .i64 16)) (.s (.i (.i .h))), 0, true⟩,
    ⟨(some (.i (.o (.o .h)))), none, .bin .rem (.s (.o (.o (.o .h)))) (.c (.int .i64 16)), 0, true⟩,
    ⟨(some (.o (.i (.o .h)))), none, .mks 1 1 [(.int .u8 0)] (.s (.i (.o (.o .h)))) (.s (.i (.o (.o .h)))), 0, true⟩,
    ⟨(some (.i (.i (.o .h)))), none, .b2s (.s (.o (.i (.o .h)))), 0, true⟩,
    ⟨(some (.o (.o (.i .h)))), none, .bin .add (.s (.o (.o .h))) (.s (.i (.i (.o .h)))), 0, true⟩,
    ⟨(some (.i .h)), none, .mov (.s (.o (.o (.i .h)))), 0, true⟩] 0)
   .ret)) }

/-- halberd/ticket.open -/
noncomputable def d66 : Go.AE.Fd := { np := 2, res := [.cell (.i (.o .h)) true 4, .tmp (.o (.i .h))], code :=
   (.seq (.reg [⟨(some (.i (.o .h))), none, .alloc [(.int .i64 0), (.str []), (.int .i64 0), (.int .i64 0)], 0, true⟩,
    ⟨(some (.o (.i .h))), none, .mov (.c .nili), 0, true⟩] 0)
   (.seq (.seq (.reg [⟨(some (.o (.i (.o (.o .h))))), none, .mov (.s (.o .h)), 0, true⟩,
    ⟨(some (.i (.i (.o (.o .h))))), none, .lenS (.s (.o (.i (.o (.o .h))))), 0, true⟩,
    ⟨(some (.o (.o (.i (.o .h))))), none, .bin .lss (.s (.i (.i (.o (.o .h))))) (.c (.int .i64 12)), 0, true⟩] 0)
   (.cond (.s (.o (.o (.i (.o .h)))))
   (.seq (.reg [⟨(some (.i (.o (.i (.o .h))))), none, .build [(.int .i64 0), (.str []), (.int .i64 0), (.int .i64 0)] [], 0, true⟩,
    ⟨(some (.o (.i (.i (.o .h))))), none, .mkif 46 (.c (.int .i64 2001)), 0, true⟩,
    ⟨none, none, .store 4 (.s (.i (.o .h))) (.s (.i (.o (.i (.o .h))))), 0, true⟩,
    ⟨(some (.o (.i .h))), none, .mov (.s (.o (.i (.i (.o .h))))), 0, true⟩] 0)
   .ret)
   .skip))
   (.seq (.reg [⟨(some (.o (.o (.o (.i .h))))), none, .mov (.s .h), 0, false⟩,
    ⟨(some (.i (.o (.o (.i .h))))), none, .mov (.s (.o .h)), 0, false⟩,
    ⟨(some (.o (.i (.o (.i .h))))), none, .slStr (.s (.i (.o (.o (.i .h))))) none (some (.c (.int .i64 12))), 0, false⟩,
    ⟨(some (.i (.i (.o (.i .h))))), none, .mov (.s (.o .h)), 0, false⟩,
    ⟨(some (.o (.o (.i (.i .h))))), none, .slStr (.s (.i (.i (.o (.i .h))))) (some (.c (.int .i64 12))) none, 0, false⟩,
    ⟨(some (.i (.o (.i (.i .h))))), none, .call (.i (.o (.i (.i (.o (.o .h)))))) [(.s (.o (.o (.o (.i .h))))), (.s (.o (.i (.o (.i .h))))), (.c (.str [])), (.s (.o (.o (.i (.i .h)))))], 0, false⟩,
    ⟨(some (.i (.i (.i (.o .h))))), none, .mov (.s (.i (.o (.i (.i .h))))), 0, false⟩,
    ⟨(some (.o (.i (.i (.i .h))))), none, .ext 0 (.s (.i (.i (.i (.o .h))))), 0, false⟩,
    ⟨(some (.i (.i (.i (.i .h))))), none, .ext 1 (.s (.i (.i (.i (.o .h))))), 0, false⟩,
    ⟨(some (.i (.i .h))), none, .mov (.s (.o (.i (.i (.i .h))))), 0, false⟩,
    ⟨(some (.o (.o (.o .h)))), none, .mov (.s (.i (.i (.i (.i .h))))), 0, false⟩] 48)
   (.seq (.seq (.reg [⟨(some (.o (.o (.o (.o (.o .h)))))), none, .mov (.s (.o (.o (.o .h)))), 0, true⟩,
    ⟨(some (.i (.o (.o (.o (.o .h)))))), none, .bin .neq (.s (.o (.o (.o (.o (.o .h)))))) (.c (.int .i64 0)), 0, true⟩] 0)
   (.cond (.s (.i (.o (.o (.o (.o .h))))))
   (.seq (.reg [⟨(some (.o (.i (.o (.o (.o .h)))))), none, .build [(.int .i64 0), (.str []), (.int .i64 0), (.int .i64 0)] [], 0, true⟩,
    ⟨(some (.i (.i (.o (.o (.o .h)))))), none, .mov (.s (.o (.o (.o .h)))), 0, true⟩,
    ⟨(some (.o (.o (.i (.o (.o .h)))))), none, .mkif 46 (.s (.i (.i (.o (.o (.o .h)))))), 0, true⟩,
    ⟨(some (.i (.o (.i (.o (.o .h)))))), none, .build [(.int .i64 0), .nili] [(0, 1, (.c (.int .i64 2001))), (1, 1, (.s (.o (.o (.i (.o (.o .h)))))))], 0, true⟩,
    ⟨(some (.o (.i (.i (.o (.o .h)))))), none, .mkif 141 (.s (.i (.o (.i (.o (.o .h)))))), 0, true⟩,
    ⟨none, none, .store 4 (.s (.i (.o .h))) (.s (.o (.i (.o (.o (.o .h)))))), 0, true⟩,
    ⟨(some (.o (.i .h))), none, .mov (.s (.o (.i (.i (.o (.o .h)))))), 0, true⟩] 0)
   .ret)
   .skip))
   (.seq (.reg [⟨(some (.o (.o (.o (.i (.o .h)))))), none, .mov (.s (.i (.i .h))), 0, true⟩,
    ⟨(some (.i (.o (.o (.i (.o .h)))))), none, .call (.o (.i (.i (.i (.o (.o .h)))))) [(.s (.o (.o (.o (.i (.o .h)))))), (.c (.int .i64 0))], 0, true⟩,
    ⟨(some (.i (.i (.i (.o (.o .h)))))), none, .mov (.s (.i (.o (.o (.i (.o .h)))))), 0, true⟩,
    ⟨(some (.o (.i (.o (.i (.o .h)))))), none, .ext 0 (.s (.i (.i (.i (.o (.o .h)))))), 0, true⟩,
    ⟨(some (.i (.i (.o (.i (.o .h)))))), none, .ext 1 (.s (.i (.i (.i (.o (.o .h)))))), 0, true⟩,
    ⟨(some (.o (.o (.i (.i (.o .h)))))), none, .ext 2 (.s (.i (.i (.i (.o (.o .h)))))), 0, true⟩,
    ⟨(some (.i (.o (.o .h)))), none, .mov (.s (.o (.i (.o (.i (.o .h)))))), 0, true⟩,
    ⟨(some (.o (.i (.o .h)))), none, .mov (.s (.i (.i (.o (.i (.o .h)))))), 0, true⟩,
    ⟨(some (.i (.i (.o .h)))), none, .mov (.s (.o (.o (.i (.i (.o .h)))))), 0, true⟩] 0)
   (.seq (.reg [⟨(some (.o (.i (.i (.i (.o .h)))))), none, .mov (.s (.i (.i .h))), 0, true⟩,
    ⟨(some (.i (.i (.i (.i (.o .h)))))), none, .mov (.s (.o (.i (.o .h)))), 0, true⟩,
    ⟨(some (.o (.o (.o (.o (.i .h)))))), none, .call (.i (.i (.i (.i (.o (.o .h)))))) [(.s (.o (.i (.i (.i (.o .h)))))), (.s (.i (.i (.i (.i (.o .h))))))], 0, true⟩,
    ⟨(some (.i (.o (.i (.i (.o .h)))))), none, .mov (.s (.o (.o (.o (.o (.i .h)))))), 0, true⟩,
    ⟨(some (.i (.o (.o (.o (.i .h)))))), none, .ext 0 (.s (.i (.o (.i (.i (.o .h)))))), 0, true⟩,
    ⟨(some (.o (.i (.o (.o (.i .h)))))), none, .ext 1 (.s (.i (.o (.i (.i (.o .h)))))), 0, true⟩,
    ⟨(some (.i (.i (.o (.o (.i .h)))))), none, .ext 2 (.s (.i (.o (.i (.i (.o .h)))))), 0, true⟩,
    ⟨(some (.o (.o (.i .h)))), none, .mov (.s (.i (.o (.o (.o (.i .h)))))), 0, true⟩,
    ⟨(some (.o (.i (.o .h)))), none, .mov (.s (.o (.i (.o (.o (.i .h)))))), 0, true⟩,
    ⟨(some (.i (.o (.i .h)))), none, .mov (.s (.i (.i (.o (.o (.i .h)))))), 0, true⟩] 0)
   (.seq (.reg [⟨(some (.i (.o (.i (.o (.i .h)))))), none, .mov (.s (.i (.i .h))), 0, true⟩,
    ⟨(some (.o (.i (.i (.o (.i .h)))))), none, .mov (.s (.o (.i (.o .h)))), 0, true⟩,
    ⟨(some (.i (.i (.i (.o (.i .h)))))), none, .call (.i (.i (.i (.i (.o (.o .h)))))) [(.s (.i (.o (.i (.o (.i .h)))))), (.s (.o (.i (.i (.o (.i .h))))))], 0, true⟩,
    ⟨(some (.o (.o (.i (.o (.i .h)))))), none, .mov (.s (.i (.i (.i (.o (.i .h)))))), 0, true⟩,
    ⟨(some (.o (.o (.o (.i (.i .h)))))), none, .ext 0 (.s (.o (.o (.i (.o (.i .h)))))), 0, true⟩,
    ⟨(some (.i (.o (.o (.i (.i .h)))))), none, .ext 1 (.s (.o (.o (.i (.o (.i .h)))))), 0, true⟩,
    ⟨(some (.o (.i (.o (.i (.i .h)))))), none, .ext 2 (.s (.o (.o (.i (.o (.i .h)))))), 0, true⟩,
    ⟨(some (.o (.i (.i .h)))), none, .mov (.s (.o (.o (.o (.i (.i .h)))))), 0, true⟩,
    ⟨(some (.o (.i (.o .h)))), none, .mov (.s (.i (.o (.o (.i (.i .h)))))), 0, true⟩,
    ⟨(some (.o (.o (.o .h)))), none, .mov (.s (.o (.i (.o (.i (.i .h)))))), 0, true⟩] 0)
   (.seq (.seq (.reg [⟨(some (.i (.i (.o (.i (.i .h)))))), none, .mov (.s (.o (.o (.o .h)))), 0, true⟩,
    ⟨(some (.o (.o (.i (.i (.i .h)))))), none, .bin .neq (.s (.i (.i (.o (.i (.i .h)))))) (.c (.int .i64 0)), 0, true⟩] 0)
   (.cond (.s (.o (.o (.i (.i (.i .h))))))
   (.seq (.reg [⟨(some (.i (.o (.i (.i (.i .h)))))), none, .build [(.int .i64 0), (.str []), (.int .i64 0), (.int .i64 0)] [], 0, true⟩,
    ⟨(some (.o (.i (.i (.i (.i .h)))))), none, .mov (.s (.o (.o (.o .h)))), 0, true⟩,
    ⟨(some (.i (.i (.i (.i (.i .h)))))), none, .mkif 46 (.s (.o (.i (.i (.i (.i .h)))))), 0, true⟩,
    ⟨(some (.o (.o (.o (.o (.o (.o .h))))))), none, .build [(.int .i64 0), .nili] [(0, 1, (.c (.int .i64 2001))), (1, 1, (.s (.i (.i (.i (.i (.i .h)))))))], 0, true⟩,
    ⟨(some (.i (.o (.o (.o (.o (.o .h))))))), none, .mkif 141 (.s (.o (.o (.o (.o (.o (.o .h))))))), 0, true⟩,
    ⟨none, none, .store 4 (.s (.i (.o .h))) (.s (.i (.o (.i (.i (.i .h)))))), 0, true⟩,
    ⟨(some (.o (.i .h))), none, .mov (.s (.i (.o (.o (.o (.o (.o .h))))))), 0, true⟩] 0)
   .ret)
   .skip))
   (.seq (.reg [⟨(some (.o (.i (.o (.o (.o (.o .h))))))), none, .mov (.s (.i (.o (.o .h)))), 0, true⟩,
    ⟨(some (.i (.i (.o (.o (.o (.o .h))))))), none, .mov (.s (.i (.i .h))), 0, true⟩,
    ⟨(some (.o (.o (.i (.o (.o (.o .h))))))), none, .mov (.s (.o (.i (.o .h)))), 0, true⟩,
    ⟨(some (.i (.o (.i (.o (.o (.o .h))))))), none, .slStr (.s (.i (.i (.o (.o (.o (.o .h))))))) (some (.s (.o (.o (.i (.o (.o (.o .h)))))))) none, 0, true⟩,
    ⟨(some (.o (.i (.i (.o (.o (.o .h))))))), none, .mov (.s (.o (.o (.i .h)))), 0, true⟩,
    ⟨(some (.i (.i (.i (.o (.o (.o .h))))))), none, .mov (.s (.o (.i (.i .h)))), 0, true⟩,
    ⟨(some (.o (.o (.o (.i (.o (.o .h))))))), none, .build [(.int .i64 0), (.str []), (.int .i64 0), (.int .i64 0)] [(0, 1, (.s (.o (.i (.o (.o (.o (.o .h)))))))), (1, 1, (.s (.i (.o (.i (.o (.o (.o .h)))))))), (2, 1, (.s (.o (.i (.i (.o (.o (.o .h)))))))), (3, 1, (.s (.i (.i (.i (.o (.o (.o .h))))))))], 0, true⟩,
    ⟨(some (.i (.i (.i .h)))), none, .alloc [(.int .i64 0), (.str []), (.int .i64 0), (.int .i64 0)], 0, true⟩,
    ⟨none, none, .store 4 (.s (.i (.i (.i .h)))) (.s (.o (.o (.o (.i (.o (.o .h))))))), 0, true⟩] 0)
   (.seq (.seq (.reg [⟨(some (.o (.i (.o (.i (.o (.o .h))))))), none, .load true 4 (.s (.i (.i (.i .h)))), 0, true⟩,
    ⟨(some (.i (.i (.o (.i (.o (.o .h))))))), none, .call (.o (.o (.o (.o (.i (.o .h)))))) [(.s (.o (.i (.o (.i (.o (.o .h)))))))], 0, true⟩,
    ⟨(some (.i (.o (.o (.i (.o (.o .h))))))), none, .mov (.s (.i (.i (.o (.i (.o (.o .h))))))), 0, true⟩,
    ⟨(some (.o (.o (.i (.i (.o (.o .h))))))), none, .ext 0 (.s (.i (.o (.o (.i (.o (.o .h))))))), 0, true⟩,
    ⟨(some (.i (.o (.i (.i (.o (.o .h))))))), none, .ext 1 (.s (.i (.o (.o (.i (.o (.o .h))))))), 0, true⟩,
    ⟨(some (.o (.o (.o (.o .h))))), none, .mov (.s (.o (.o (.i (.i (.o (.o .h))))))), 0, true⟩,
    ⟨(some (.i (.o (.o (.o .h))))), none, .mov (.s (.i (.o (.i (.i (.o (.o .h))))))), 0, true⟩] 0)
   (.seq (.reg [⟨(some (.o (.i (.i (.i (.o (.o .h))))))), none, .mov (.s (.i (.o (.o (.o .h))))), 0, true⟩,
    ⟨(some (.i (.i (.i (.i (.o (.o .h))))))), none, .nilq .i true (.s (.o (.i (.i (.i (.o (.o .h))))))), 0, true⟩,
    ⟨(some (.o (.o (.o (.o (.i (.o .h))))))), none, .mov (.s (.i (.i (.i (.i (.o (.o .h))))))), 0, true⟩,
    ⟨(some (.i (.o (.o (.o (.i (.o .h))))))), (some ((.o (.o (.o (.o (.i (.o .h)))))), false)), .mov (.s (.o (.o (.o (.o .h))))), 0, true⟩,
    ⟨(some (.o (.i (.o (.o (.i (.o .h))))))), (some ((.o (.o (.o (.o (.i (.o .h)))))), false)), .mov (.s (.i (.i .h))), 0, true⟩,
    ⟨(some (.i (.i (.o (.o (.i (.o .h))))))), (some ((.o (.o (.o (.o (.i (.o .h)))))), false)), .bin .neq (.s (.i (.o (.o (.o (.i (.o .h))))))) (.s (.o (.i (.o (.o (.i (.o .h))))))), 0, true⟩,
    ⟨(some (.o (.o (.i (.o (.i (.o .h))))))), none, .pick (.s (.o (.o (.o (.o (.i (.o .h))))))) (.c (.bool true)) (.s (.i (.i (.o (.o (.i (.o .h))))))), 0, true⟩] 0)
   (.cond (.s (.o (.o (.i (.o (.i (.o .h)))))))
   (.seq (.reg [⟨(some (.i (.o (.i (.o (.i (.o .h))))))), none, .build [(.int .i64 0), (.str []), (.int .i64 0), (.int .i64 0)] [], 0, true⟩,
    ⟨(some (.o (.i (.i (.o (.i (.o .h))))))), none, .mkif 46 (.c (.int .i64 2001)), 0, true⟩,
    ⟨none, none, .store 4 (.s (.i (.o .h))) (.s (.i (.o (.i (.o (.i (.o .h))))))), 0, true⟩,
    ⟨(some (.o (.i .h))), none, .mov (.s (.o (.i (.i (.o (.i (.o .h))))))), 0, true⟩] 0)
   .ret)
   .skip)))
   (.seq (.reg [⟨(some (.i (.i (.i (.o (.i (.o .h))))))), none, .load true 4 (.s (.i (.i (.i .h)))), 0, true⟩,
    ⟨none, none, .store 4 (.s (.i (.o .h))) (.s (.i (.i (.i (.o (.i (.o .h))))))), 0, true⟩,
    ⟨(some (.o (.i .h))), none, .mov (.c .nili), 0, true⟩] 0)
   .ret))))))))))) }

/-- halberd/ticket.told -/
noncomputable def d67 : Go.AE.Fd := { np := 1, res := [.tmp (.i .h)], code :=
   (.seq (.reg [⟨(some (.i .h)), none, .mov (.c (.int .i64 0)), 0, true⟩] 0)
   (.seq (.reg [⟨(some (.o (.o .h))), none, .alloc [(.int .i64 0)], 0, true⟩] 0)
   (.seq (.seq (.reg [⟨(some (.i (.o .h))), none, .mov (.s .h), 0, true⟩,
    ⟨(some (.o (.i .h))), none, .nilq .i true (.s (.i (.o .h))), 0, true⟩,
    ⟨(some (.i (.i .h))), none, .mov (.s (.o (.i .h))), 0, true⟩,
    ⟨(some (.o (.o (.o .h)))), (some ((.i (.i .h)), true)), .mov (.s .h), 0, true⟩,
    ⟨(some (.i (.o (.o .h)))), (some ((.i (.i .h)), true)), .mkif 146 (.s (.o (.o .h))), 0, true⟩,
    ⟨(some (.o (.i (.o .h)))), (some ((.i (.i .h)), true)), .call (.i (.o (.o (.o (.i (.o .h)))))) [(.s (.o (.o (.o .h)))), (.s (.i (.o (.o .h))))], 0, true⟩,
    ⟨(some (.i (.i (.o .h)))), none, .pick (.s (.i (.i .h))) (.s (.o (.i (.o .h)))) (.c (.bool false)), 0, true⟩] 0)
   (.cond (.s (.i (.i (.o .h))))
   (.seq (.reg [⟨(some (.o (.o (.i .h)))), none, .load false 1 (.s (.o (.o .h))), 0, true⟩,
    ⟨(some (.i .h)), none, .mov (.s (.o (.o (.i .h)))), 0, true⟩] 0)
   .ret)
   .skip))
   (.seq (.reg [⟨(some (.i .h)), none, .mov (.c (.int .i64 0)), 0, true⟩] 0)
   .ret)))) }

/-- halberd/num.modulus -/
noncomputable def d68 : Go.AE.Fd := { np := 1, res := [.cell (.i .h) true 4, .tmp (.o (.o .h))], code :=
   (.seq (.reg [⟨(some (.i .h)), none, .alloc [(.int .u64 0), (.int .u64 0), (.int .u64 0), (.int .u64 0)], 0, true⟩,
    ⟨(some (.o (.o .h))), none, .mov (.c (.bool false)), 0, true⟩] 0)
   (.seq (.seq (.reg [⟨(some (.i (.o .h))), none, .mov (.s .h), 0, true⟩] 0)
   (.block 0 (.seq (.reg [⟨(some (.i (.i .h))), none, .bin .eql (.s (.i (.o .h))) (.c (.int .i64 0)), 0, true⟩,
    ⟨(some (.o (.i .h))), none, .mov (.s (.i (.i .h))), 0, true⟩] 0)
   (.cond (.s (.o (.i .h)))
   (.seq (.reg [⟨(some (.o (.o (.o .h)))), none, .build [(.int .u64 0), (.int .u64 0), (.int .u64 0), (.int .u64 0)] [(0, 1, (.c (.int .u64 18446744073709551615))), (1, 1, (.c (.int .u64 4294967295))), (2, 1, (.c (.int .u64 0))), (3, 1, (.c (.int .u64 18446744069414584321)))], 0, true⟩,
    ⟨none, none, .store 4 (.s (.i .h)) (.s (.o (.o (.o .h)))), 0, true⟩,
    ⟨(some (.o (.o .h))), none, .mov (.c (.bool true)), 0, true⟩] 0)
   .ret)
   (.seq (.reg [⟨(some (.o (.i (.o .h)))), none, .bin .eql (.s (.i (.o .h))) (.c (.int .i64 1)), 0, true⟩,
    ⟨(some (.i (.o (.o .h)))), none, .mov (.s (.o (.i (.o .h)))), 0, true⟩] 0)
   (.cond (.s (.i (.o (.o .h))))
   (.seq (.reg [⟨(some (.i (.i (.o .h)))), none, .build [(.int .u64 0), (.int .u64 0), (.int .u64 0), (.int .u64 0)] [(0, 1, (.c (.int .u64 17562291160714782033))), (1, 1, (.c (.int .u64 13611842547513532036))), (2, 1, (.c (.int .u64 18446744073709551615))), (3, 1, (.c (.int .u64 18446744069414584320)))], 0, true⟩,
    ⟨none, none, .store 4 (.s (.i .h)) (.s (.i (.i (.o .h)))), 0, true⟩,
    ⟨(some (.o (.o .h))), none, .mov (.c (.bool true)), 0, true⟩] 0)
   .ret)
   (.seq (.reg [⟨(some (.i (.o (.i .h)))), none, .bin .eql (.s (.i (.o .h))) (.c (.int .i64 2)), 0, true⟩,
    ⟨(some (.o (.o (.i .h)))), none, .mov (.s (.i (.o (.i .h)))), 0, true⟩] 0)
   (.cond (.s (.o (.o (.i .h))))
   (.seq (.reg [⟨(some (.o (.i (.i .h)))), none, .build [(.int .u64 0), (.int .u64 0), (.int .u64 0), (.int .u64 0)] [(0, 1, (.c (.int .u64 18446744073709551597))), (1, 1, (.c (.int .u64 18446744073709551615))), (2, 1, (.c (.int .u64 18446744073709551615))), (3, 1, (.c (.int .u64 9223372036854775807)))], 0, true⟩,
    ⟨none, none, .store 4 (.s (.i .h)) (.s (.o (.i (.i .h)))), 0, true⟩,
    ⟨(some (.o (.o .h))), none, .mov (.c (.bool true)), 0, true⟩] 0)
   .ret)
   .skip))))))))
   (.seq (.reg [⟨(some (.i (.i (.i .h)))), none, .build [(.int .u64 0), (.int .u64 0), (.int .u64 0), (.int .u64 0)] [], 0, true⟩,
    ⟨none, none, .store 4 (.s (.i .h)) (.s (.i (.i (.i .h)))), 0, true⟩,
    ⟨(some (.o (.o .h))), none, .mov (.c (.bool false)), 0, true⟩] 0)
   .ret))) }

/-- (*halberd/num.Field).Add -/
noncomputable def d69 : Go.AE.Fd := { np := 3, res := [.cell (.i (.i .h)) true 4], code :=
   (.seq (.reg [⟨(some (.i (.o .h))), none, .box (.s (.o .h)), 0, true⟩,
    ⟨(some (.o (.i .h))), none, .box (.s (.i .h)), 0, true⟩,
    ⟨(some (.i (.i .h))), none, .alloc [(.int .u64 0), (.int .u64 0), (.int .u64 0), (.int .u64 0)], 0, true⟩] 0)
   (.seq (.reg [⟨(some (.i (.o (.i .h)))), none, .load true 4 (.s (.i (.o .h))), 0, true⟩,
    ⟨(some (.o (.i (.i .h)))), none, .load true 4 (.s (.o (.i .h))), 0, true⟩,
    ⟨(some (.i (.i (.i .h)))), none, .call (.o (.i (.o (.o (.i (.o .h)))))) [(.s (.i (.o (.i .h)))), (.s (.o (.i (.i .h))))], 0, true⟩,
    ⟨(some (.o (.o (.i .h)))), none, .mov (.s (.i (.i (.i .h)))), 0, true⟩,
    ⟨(some (.o (.o (.o (.o .h))))), none, .ext 0 (.s (.o (.o (.i .h)))), 0, true⟩,
    ⟨(some (.i (.o (.o (.o .h))))), none, .ext 1 (.s (.o (.o (.i .h)))), 0, true⟩,
    ⟨(some (.o (.o (.o .h)))), none, .alloc [(.int .u64 0), (.int .u64 0), (.int .u64 0), (.int .u64 0)], 0, true⟩,
    ⟨none, none, .store 4 (.s (.o (.o (.o .h)))) (.s (.o (.o (.o (.o .h))))), 0, true⟩,
    ⟨(some (.i (.o (.o .h)))), none, .mov (.s (.i (.o (.o (.o .h))))), 0, true⟩] 0)
   (.seq (.reg [⟨(some (.i (.i (.o (.o .h))))), none, .load true 4 (.s (.o (.o (.o .h)))), 0, false⟩,
    ⟨(some (.o (.o (.i (.o .h))))), none, .mov (.s .h), 0, false⟩,
    ⟨(some (.i (.o (.i (.o .h))))), none, .nilc (.s (.o (.o (.i (.o .h))))), 0, false⟩,
    ⟨(some (.o (.i (.i (.o .h))))), none, .lea 0 (.s (.i (.o (.i (.o .h))))), 0, false⟩,
    ⟨(some (.i (.i (.i (.o .h))))), none, .load true 4 (.s (.o (.i (.i (.o .h))))), 0, false⟩,
    ⟨(some (.o (.o (.o (.i .h))))), none, .call (.i (.i (.o (.o (.i (.o .h)))))) [(.s (.i (.i (.o (.o .h))))), (.s (.i (.i (.i (.o .h)))))], 0, false⟩,
    ⟨(some (.o (.i (.o (.o .h))))), none, .mov (.s (.o (.o (.o (.i .h))))), 0, false⟩,
    ⟨(some (.i (.o (.o (.i .h))))), none, .ext 0 (.s (.o (.i (.o (.o .h))))), 0, false⟩,
    ⟨(some (.o (.i (.o (.i .h))))), none, .ext 1 (.s (.o (.i (.o (.o .h))))), 0, false⟩,
    ⟨(some (.o (.i (.o .h)))), none, .alloc [(.int .u64 0), (.int .u64 0), (.int .u64 0), (.int .u64 0)], 0, false⟩,
    ⟨none, none, .store 4 (.s (.o (.i (.o .h)))) (.s (.i (.o (.o (.i .h))))), 0, false⟩,
    ⟨(some (.i (.i (.o .h)))), none, .mov (.s (.o (.i (.o (.i .h))))), 0, false⟩] 1)
   (.seq (.seq (.reg [⟨(some (.i (.i (.o (.i .h))))), none, .mov (.s (.i (.o (.o .h)))), 0, true⟩,
    ⟨(some (.o (.o (.i (.i .h))))), none, .bin .eql (.s (.i (.i (.o (.i .h))))) (.c (.int .u64 1)), 0, true⟩,
    ⟨(some (.i (.o (.i (.i .h))))), none, .mov (.s (.o (.o (.i (.i .h))))), 0, true⟩,
    ⟨(some (.o (.i (.i (.i .h))))), (some ((.i (.o (.i (.i .h)))), false)), .mov (.s (.i (.i (.o .h)))), 0, true⟩,
    ⟨(some (.i (.i (.i (.i .h))))), (some ((.i (.o (.i (.i .h)))), false)), .bin .eql (.s (.o (.i (.i (.i .h))))) (.c (.int .u64 0)), 0, true⟩,
    ⟨(some (.o (.o (.o (.o (.o .h)))))), none, .pick (.s (.i (.o (.i (.i .h))))) (.c (.bool true)) (.s (.i (.i (.i (.i .h))))), 0, true⟩] 0)
   (.cond (.s (.o (.o (.o (.o (.o .h))))))
   (.seq (.reg [⟨(some (.i (.o (.o (.o (.o .h)))))), none, .load true 4 (.s (.o (.i (.o .h)))), 0, true⟩,
    ⟨none, none, .store 4 (.s (.i (.i .h))) (.s (.i (.o (.o (.o (.o .h)))))), 0, true⟩] 0)
   .ret)
   .skip))
   (.seq (.reg [⟨(some (.o (.i (.o (.o (.o .h)))))), none, .load true 4 (.s (.o (.o (.o .h)))), 0, true⟩,
    ⟨none, none, .store 4 (.s (.i (.i .h))) (.s (.o (.i (.o (.o (.o .h)))))), 0, true⟩] 0)
   .ret))))) }

/-- halberd/num.Load -/
noncomputable def d70 : Go.AE.Fd := { np := 1, res := [.cell (.i .h) true 4], code :=
   (.seq (.reg [⟨(some (.i .h)), none, .alloc [(.int .u64 0), (.int .u64 0), (.int .u64 0), (.int .u64 0)], 0, true⟩] 0)
   (.seq (.reg [⟨(some (.o (.o .h))), none, .alloc [(.int .u64 0), (.int .u64 0), (.int .u64 0), (.int .u64 0)], 0, true⟩] 0)
   (.seq (.seq (.reg [⟨(some (.i (.i .h))), none, .mov (.c (.int .i64 0)), 0, true⟩] 0)
   (.block 0 (.loop (.seq (.reg [⟨(some (.o (.o (.o .h)))), none, .bin .lss (.s (.i (.i .h))) (.c (.int .i64 32)), 0, true⟩] 0)
   (.seq (.cond (.s (.o (.o (.o .h))))
   .skip
   (.exit 0))
   (.seq (.block 1 (.seq (.reg [⟨(some (.i (.o (.o .h)))), none, .mov (.s (.i (.i .h))), 0, true⟩,
    ⟨(some (.i (.o .h))), none, .mov (.s (.i (.o (.o .h)))), 0, true⟩] 0)
   (.seq (.reg [⟨(some (.o (.i (.o .h)))), none, .mov (.s (.i (.o .h))), 0, true⟩,
    ⟨(some (.i (.i (.o .h)))), none, .bin .quo (.s (.o (.i (.o .h)))) (.c (.int .i64 8)), 0, true⟩,
    ⟨(some (.o (.o (.i .h)))), none, .bin .sub (.c (.int .i64 3)) (.s (.i (.i (.o .h)))), 0, true⟩,
    ⟨(some (.o (.i .h))), none, .mov (.s (.o (.o (.i .h)))), 0, true⟩] 0)
   (.reg [⟨(some (.i (.o (.i .h)))), none, .mov (.s (.o (.i .h))), 0, false⟩,
    ⟨(some (.o (.i (.i .h)))), none, .mov (.s (.o (.i .h))), 0, false⟩,
    ⟨(some (.i (.i (.i .h)))), none, .ixA 4 1 (.s (.o (.o .h))) (.s (.o (.i (.i .h)))), 0, false⟩,
    ⟨(some (.o (.o (.o (.o .h))))), none, .load false 1 (.s (.i (.i (.i .h)))), 0, false⟩,
    ⟨(some (.i (.o (.o (.o .h))))), none, .bin .shl (.s (.o (.o (.o (.o .h))))) (.c (.int .u64 8)), 0, false⟩,
    ⟨(some (.o (.i (.o (.o .h))))), none, .mov (.s .h), 0, false⟩,
    ⟨(some (.i (.i (.o (.o .h))))), none, .mov (.s (.i (.o .h))), 0, false⟩,
    ⟨(some (.o (.o (.i (.o .h))))), none, .ixStr (.s (.o (.i (.o (.o .h))))) (.s (.i (.i (.o (.o .h))))), 0, false⟩,
    ⟨(some (.i (.o (.i (.o .h))))), none, .conv .u64 (.s (.o (.o (.i (.o .h))))), 0, false⟩,
    ⟨(some (.o (.i (.i (.o .h))))), none, .bin .or (.s (.i (.o (.o (.o .h))))) (.s (.i (.o (.i (.o .h))))), 0, false⟩,
    ⟨(some (.i (.i (.i (.o .h))))), none, .ixA 4 1 (.s (.o (.o .h))) (.s (.i (.o (.i .h)))), 0, false⟩,
    ⟨none, none, .store 1 (.s (.i (.i (.i (.o .h))))) (.s (.o (.i (.i (.o .h))))), 0, false⟩] 0))))
   (.reg [⟨(some (.o (.o (.o (.i .h))))), none, .bin .add (.s (.i (.i .h))) (.c (.int .i64 1)), 0, true⟩,
    ⟨(some (.i (.i .h))), none, .mov (.s (.o (.o (.o (.i .h))))), 0, true⟩] 0)))))))
   (.seq (.reg [⟨(some (.i (.o (.o (.i .h))))), none, .load true 4 (.s (.o (.o .h))), 0, true⟩,
    ⟨none, none, .store 4 (.s (.i .h)) (.s (.i (.o (.o (.i .h))))), 0, true⟩] 0)
   .ret)))) }

/-- (halberd/num.Nat).Less -/
noncomputable def d71 : Go.AE.Fd := { np := 2, res := [.tmp (.i (.o .h))], code :=
   (.seq (.reg [⟨(some (.i .h)), none, .box (.s .h), 0, true⟩,
    ⟨(some (.o (.o .h))), none, .box (.s (.o .h)), 0, true⟩,
    ⟨(some (.i (.o .h))), none, .mov (.c (.bool false)), 0, true⟩] 0)
   (.seq (.reg [⟨(some (.i (.o (.o .h)))), none, .load true 4 (.s (.i .h)), 0, true⟩,
    ⟨(some (.o (.i (.o .h)))), none, .load true 4 (.s (.o (.o .h))), 0, true⟩,
    ⟨(some (.i (.i (.o .h)))), none, .call (.i (.i (.o (.o (.i (.o .h)))))) [(.s (.i (.o (.o .h)))), (.s (.o (.i (.o .h))))], 0, true⟩,
    ⟨(some (.o (.o (.o .h)))), none, .mov (.s (.i (.i (.o .h)))), 0, true⟩,
    ⟨(some (.o (.o (.i .h)))), none, .ext 0 (.s (.o (.o (.o .h)))), 0, true⟩,
    ⟨(some (.i (.o (.i .h)))), none, .ext 1 (.s (.o (.o (.o .h)))), 0, true⟩,
    ⟨(some (.o (.i .h))), none, .alloc [(.int .u64 0), (.int .u64 0), (.int .u64 0), (.int .u64 0)], 0, true⟩,
    ⟨none, none, .store 4 (.s (.o (.i .h))) (.s (.o (.o (.i .h)))), 0, true⟩,
    ⟨(some (.i (.i .h))), none, .mov (.s (.i (.o (.i .h)))), 0, true⟩] 0)
   (.seq (.reg [⟨(some (.o (.i (.i .h)))), none, .mov (.s (.i (.i .h))), 0, true⟩,
    ⟨(some (.i (.i (.i .h)))), none, .bin .eql (.s (.o (.i (.i .h)))) (.c (.int .u64 1)), 0, true⟩,
    ⟨(some (.i (.o .h))), none, .mov (.s (.i (.i (.i .h)))), 0, true⟩] 0)
   .ret))) }

/-- halberd/halberdref4.halves -/
noncomputable def d73 : Go.AE.Fd := { np := 1, res := [.tmp (.i .h), .tmp (.o (.o .h))], code :=
   (.seq (.reg [⟨(some (.i .h)), none, .mov (.c (.int .u64 0)), 0, true⟩,
    ⟨(some (.o (.o .h))), none, .mov (.c (.int .u64 0)), 0, true⟩] 0)
   (.seq (.reg [⟨(some (.i (.o .h))), none, .mov (.c (.int .u64 0)), 0, true⟩,
    ⟨(some (.o (.i .h))), none, .mov (.c (.int .u64 0)), 0, true⟩] 0)
   (.seq (.seq (.reg [⟨(some (.i (.i .h))), none, .mov (.c (.int .i64 0)), 0, true⟩] 0)
   (.block 0 (.loop (.seq (.seq (.reg [⟨(some (.o (.o (.o .h)))), none, .mov (.s (.i (.i .h))), 0, true⟩,
    ⟨(some (.i (.o (.o .h)))), none, .bin .lss (.s (.o (.o (.o .h)))) (.c (.int .i64 8)), 0, true⟩] 0)
   (.cond (.s (.i (.o (.o .h))))
   .skip
   (.exit 0)))
   (.seq (.block 1 (.seq (.reg [⟨(some (.o (.o (.i .h)))), none, .mov (.s (.i (.o .h))), 0, true⟩,
    ⟨(some (.i (.o (.i .h)))), none, .bin .shl (.s (.o (.o (.i .h)))) (.c (.int .u64 8)), 0, true⟩,
    ⟨(some (.o (.i (.i .h)))), none, .mov (.s .h), 0, true⟩,
    ⟨(some (.i (.i (.i .h)))), none, .mov (.s (.i (.i .h))), 0, true⟩,
    ⟨(some (.o (.o (.o (.o .h))))), none, .ixStr (.s (.o (.i (.i .h)))) (.s (.i (.i (.i .h)))), 0, true⟩,
    ⟨(some (.i (.o (.o (.o .h))))), none, .conv .u64 (.s (.o (.o (.o (.o .h))))), 0, true⟩,
    ⟨(some (.o (.i (.o (.o .h))))), none, .bin .or (.s (.i (.o (.i .h)))) (.s (.i (.o (.o (.o .h))))), 0, true⟩,
    ⟨(some (.i (.o .h))), none, .mov (.s (.o (.i (.o (.o .h))))), 0, true⟩] 0)
   (.reg [⟨(some (.i (.i (.o (.o .h))))), none, .mov (.s (.o (.i .h))), 0, true⟩,
    ⟨(some (.o (.o (.i (.o .h))))), none, .bin .shl (.s (.i (.i (.o (.o .h))))) (.c (.int .u64 8)), 0, true⟩,
    ⟨(some (.i (.o (.i (.o .h))))), none, .mov (.s .h), 0, true⟩,
    ⟨(some (.o (.i (.i (.o .h))))), none, .mov (.s (.i (.i .h))), 0, true⟩,
    ⟨(some (.i (.i (.i (.o .h))))), none, .bin .add (.c (.int .i64 8)) (.s (.o (.i (.i (.o .h))))), 0, true⟩,
    ⟨(some (.o (.o (.o (.i .h))))), none, .ixStr (.s (.i (.o (.i (.o .h))))) (.s (.i (.i (.i (.o .h))))), 0, true⟩,
    ⟨(some (.i (.o (.o (.i .h))))), none, .conv .u64 (.s (.o (.o (.o (.i .h))))), 0, true⟩,
    ⟨(some (.o (.i (.o (.i .h))))), none, .bin .or (.s (.o (.o (.i (.o .h))))) (.s (.i (.o (.o (.i .h))))), 0, true⟩,
    ⟨(some (.o (.i .h))), none, .mov (.s (.o (.i (.o (.i .h))))), 0, true⟩] 0)))
   (.reg [⟨(some (.o (.i (.o .h)))), none, .mov (.s (.i (.i .h))), 0, true⟩,
    ⟨(some (.i (.i (.o .h)))), none, .bin .add (.s (.o (.i (.o .h)))) (.c (.int .i64 1)), 0, true⟩,
    ⟨(some (.i (.i .h))), none, .mov (.s (.i (.i (.o .h)))), 0, true⟩] 0))))))
   (.seq (.reg [⟨(some (.i (.i (.o (.i .h))))), none, .mov (.s (.i (.o .h))), 0, true⟩,
    ⟨(some (.o (.o (.i (.i .h))))), none, .mov (.s (.o (.i .h))), 0, true⟩,
    ⟨(some (.i .h)), none, .mov (.s (.i (.i (.o (.i .h))))), 0, true⟩,
    ⟨(some (.o (.o .h))), none, .mov (.s (.o (.o (.i (.i .h))))), 0, true⟩] 0)
   .ret)))) }

/-- halberd/halberdref4.times -/
noncomputable def d74 : Go.AE.Fd := { np := 4, res := [.tmp (.i (.o (.o .h))), .tmp (.o (.i (.o .h)))], code :=
   (.seq (.reg [⟨(some (.i (.o (.o .h)))), none, .mov (.c (.int .u64 0)), 0, true⟩,
    ⟨(some (.o (.i (.o .h)))), none, .mov (.c (.int .u64 0)), 0, true⟩] 0)
   (.seq (.reg [⟨(some (.i (.i (.o .h)))), none, .mov (.c (.int .u64 0)), 0, true⟩,
    ⟨(some (.o (.o (.i .h)))), none, .mov (.c (.int .u64 0)), 0, true⟩] 0)
   (.seq (.seq (.reg [⟨(some (.i (.o (.i .h)))), none, .mov (.c (.int .i64 0)), 0, true⟩] 0)
   (.block 0 (.loop (.seq (.seq (.reg [⟨(some (.o (.o (.o (.o .h))))), none, .mov (.s (.i (.o (.i .h)))), 0, true⟩,
    ⟨(some (.i (.o (.o (.o .h))))), none, .bin .lss (.s (.o (.o (.o (.o .h))))) (.c (.int .i64 128)), 0, true⟩] 0)
   (.cond (.s (.i (.o (.o (.o .h)))))
   .skip
   (.exit 0)))
   (.seq (.block 1 (.seq (.reg [⟨(some (.o (.o (.i (.o .h))))), none, .mov (.s .h), 0, true⟩,
    ⟨(some (.i (.o (.i (.o .h))))), none, .bin .shr (.s (.o (.o (.i (.o .h))))) (.c (.int .u64 63)), 0, true⟩,
    ⟨(some (.o (.i (.i .h)))), none, .mov (.s (.i (.o (.i (.o .h))))), 0, true⟩] 0)
   (.seq (.seq (.reg [⟨(some (.o (.i (.i (.o .h))))), none, .mov (.s (.i (.o (.i .h)))), 0, true⟩,
    ⟨(some (.i (.i (.i (.o .h))))), none, .bin .gtr (.s (.o (.i (.i (.o .h))))) (.c (.int .i64 63)), 0, true⟩] 0)
   (.cond (.s (.i (.i (.i (.o .h)))))
   (.seq (.reg [⟨(some (.o (.o (.o (.i .h))))), none, .mov (.s (.o .h)), 0, true⟩,
    ⟨(some (.i (.o (.o (.i .h))))), none, .bin .shr (.s (.o (.o (.o (.i .h))))) (.c (.int .u64 63)), 0, true⟩,
    ⟨(some (.o (.i (.i .h)))), none, .mov (.s (.i (.o (.o (.i .h))))), 0, true⟩] 0)
   (.reg [⟨(some (.o (.i (.o (.i .h))))), none, .mov (.s (.o .h)), 0, true⟩,
    ⟨(some (.i (.i (.o (.i .h))))), none, .bin .shl (.s (.o (.i (.o (.i .h))))) (.c (.int .u64 1)), 0, true⟩,
    ⟨(some (.o .h)), none, .mov (.s (.i (.i (.o (.i .h))))), 0, true⟩] 0))
   (.reg [⟨(some (.o (.o (.i (.i .h))))), none, .mov (.s .h), 0, true⟩,
    ⟨(some (.i (.o (.i (.i .h))))), none, .bin .shl (.s (.o (.o (.i (.i .h))))) (.c (.int .u64 1)), 0, true⟩,
    ⟨(some .h), none, .mov (.s (.i (.o (.i (.i .h))))), 0, true⟩] 0)))
   (.seq (.seq (.reg [⟨(some (.o (.i (.i (.i .h))))), none, .mov (.s (.o (.i (.i .h)))), 0, true⟩,
    ⟨(some (.i (.i (.i (.i .h))))), none, .bin .eql (.s (.o (.i (.i (.i .h))))) (.c (.int .u64 1)), 0, true⟩] 0)
   (.cond (.s (.i (.i (.i (.i .h)))))
   (.seq (.reg [⟨(some (.o (.o (.o (.o (.o .h)))))), none, .mov (.s (.i (.i (.o .h)))), 0, true⟩,
    ⟨(some (.i (.o (.o (.o (.o .h)))))), none, .mov (.s (.i .h)), 0, true⟩,
    ⟨(some (.o (.i (.o (.o (.o .h)))))), none, .bin .xor (.s (.o (.o (.o (.o (.o .h)))))) (.s (.i (.o (.o (.o (.o .h)))))), 0, true⟩,
    ⟨(some (.i (.i (.o .h)))), none, .mov (.s (.o (.i (.o (.o (.o .h)))))), 0, true⟩] 0)
   (.reg [⟨(some (.i (.i (.o (.o (.o .h)))))), none, .mov (.s (.o (.o (.i .h)))), 0, true⟩,
    ⟨(some (.o (.o (.i (.o (.o .h)))))), none, .mov (.s (.o (.o .h))), 0, true⟩,
    ⟨(some (.i (.o (.i (.o (.o .h)))))), none, .bin .xor (.s (.i (.i (.o (.o (.o .h)))))) (.s (.o (.o (.i (.o (.o .h)))))), 0, true⟩,
    ⟨(some (.o (.o (.i .h)))), none, .mov (.s (.i (.o (.i (.o (.o .h)))))), 0, true⟩] 0))
   .skip))
   (.seq (.reg [⟨(some (.o (.i (.i (.o (.o .h)))))), none, .mov (.s (.o (.o .h))), 0, true⟩,
    ⟨(some (.i (.i (.i (.o (.o .h)))))), none, .bin .and (.s (.o (.i (.i (.o (.o .h)))))) (.c (.int .u64 1)), 0, true⟩,
    ⟨(some (.i (.i (.i .h)))), none, .mov (.s (.i (.i (.i (.o (.o .h)))))), 0, true⟩] 0)
   (.seq (.reg [⟨(some (.o (.o (.o (.i (.o .h)))))), none, .mov (.s (.o (.o .h))), 0, true⟩,
    ⟨(some (.i (.o (.o (.i (.o .h)))))), none, .bin .shr (.s (.o (.o (.o (.i (.o .h)))))) (.c (.int .u64 1)), 0, true⟩,
    ⟨(some (.o (.i (.o (.i (.o .h)))))), none, .mov (.s (.i .h)), 0, true⟩,
    ⟨(some (.i (.i (.o (.i (.o .h)))))), none, .bin .shl (.s (.o (.i (.o (.i (.o .h)))))) (.c (.int .u64 63)), 0, true⟩,
    ⟨(some (.o (.o (.i (.i (.o .h)))))), none, .bin .or (.s (.i (.o (.o (.i (.o .h)))))) (.s (.i (.i (.o (.i (.o .h)))))), 0, true⟩,
    ⟨(some (.o (.o .h))), none, .mov (.s (.o (.o (.i (.i (.o .h)))))), 0, true⟩] 0)
   (.seq (.reg [⟨(some (.i (.o (.i (.i (.o .h)))))), none, .mov (.s (.i .h)), 0, true⟩,
    ⟨(some (.o (.i (.i (.i (.o .h)))))), none, .bin .shr (.s (.i (.o (.i (.i (.o .h)))))) (.c (.int .u64 1)), 0, true⟩,
    ⟨(some (.i .h)), none, .mov (.s (.o (.i (.i (.i (.o .h)))))), 0, true⟩] 0)
   (.seq (.reg [⟨(some (.i (.i (.i (.i (.o .h)))))), none, .mov (.s (.i (.i (.i .h)))), 0, true⟩,
    ⟨(some (.o (.o (.o (.o (.i .h)))))), none, .bin .eql (.s (.i (.i (.i (.i (.o .h)))))) (.c (.int .u64 1)), 0, true⟩] 0)
   (.cond (.s (.o (.o (.o (.o (.i .h))))))
   (.reg [⟨(some (.i (.o (.o (.o (.i .h)))))), none, .mov (.s (.i .h)), 0, true⟩,
    ⟨(some (.o (.i (.o (.o (.i .h)))))), none, .bin .xor (.s (.i (.o (.o (.o (.i .h)))))) (.c (.int .u64 16212958658533785600)), 0, true⟩,
    ⟨(some (.i .h)), none, .mov (.s (.o (.i (.o (.o (.i .h)))))), 0, true⟩] 0)
   .skip)))))))))
   (.reg [⟨(some (.o (.i (.o (.o .h))))), none, .mov (.s (.i (.o (.i .h)))), 0, true⟩,
    ⟨(some (.i (.i (.o (.o .h))))), none, .bin .add (.s (.o (.i (.o (.o .h))))) (.c (.int .i64 1)), 0, true⟩,
    ⟨(some (.i (.o (.i .h)))), none, .mov (.s (.i (.i (.o (.o .h))))), 0, true⟩] 0))))))
   (.seq (.reg [⟨(some (.i (.i (.o (.o (.i .h)))))), none, .mov (.s (.i (.i (.o .h)))), 0, true⟩,
    ⟨(some (.o (.o (.i (.o (.i .h)))))), none, .mov (.s (.o (.o (.i .h)))), 0, true⟩,
    ⟨(some (.i (.o (.o .h)))), none, .mov (.s (.i (.i (.o (.o (.i .h)))))), 0, true⟩,
    ⟨(some (.o (.i (.o .h)))), none, .mov (.s (.o (.o (.i (.o (.i .h)))))), 0, true⟩] 0)
   .ret)))) }

/-- halberd/halberdref4.whole -/
noncomputable def d75 : Go.AE.Fd := { np := 2, res := [.tmp (.i (.o .h))], code :=
   (.seq (.reg [⟨(some (.i (.o .h))), none, .mov (.c (.str [])), 0, true⟩] 0)
   (.seq (.reg [⟨(some (.o (.o (.o .h)))), none, .mks 1 1 [(.int .u8 0)] (.c (.int .i64 16)) (.c (.int .i64 16)), 0, true⟩,
    ⟨(some (.o (.i .h))), none, .mov (.s (.o (.o (.o .h)))), 0, true⟩] 0)
   (.seq (.seq (.reg [⟨(some (.i (.i .h))), none, .mov (.c (.int .i64 7)), 0, true⟩] 0)
   (.block 0 (.loop (.seq (.seq (.reg [⟨(some (.i (.o (.o .h)))), none, .mov (.s (.i (.i .h))), 0, true⟩,
    ⟨(some (.o (.i (.o .h)))), none, .bin .geq (.s (.i (.o (.o .h)))) (.c (.int .i64 0)), 0, true⟩] 0)
   (.cond (.s (.o (.i (.o .h))))
   .skip
   (.exit 0)))
   (.seq (.block 1 (.seq (.reg [⟨(some (.i (.o (.i .h)))), none, .mov (.s (.o (.i .h))), 0, true⟩,
    ⟨(some (.o (.i (.i .h)))), none, .mov (.s (.i (.i .h))), 0, true⟩,
    ⟨(some (.i (.i (.i .h)))), none, .mov (.s .h), 0, true⟩,
    ⟨(some (.o (.o (.o (.o .h))))), none, .bin .and (.s (.i (.i (.i .h)))) (.c (.int .u64 255)), 0, true⟩,
    ⟨(some (.i (.o (.o (.o .h))))), none, .conv .u8 (.s (.o (.o (.o (.o .h))))), 0, true⟩,
    ⟨(some (.o (.i (.o (.o .h))))), none, .ixS 1 (.s (.i (.o (.i .h)))) (.s (.o (.i (.i .h)))), 0, true⟩,
    ⟨none, none, .store 1 (.s (.o (.i (.o (.o .h))))) (.s (.i (.o (.o (.o .h))))), 0, true⟩] 0)
   (.seq (.reg [⟨(some (.i (.i (.o (.o .h))))), none, .mov (.s (.o (.i .h))), 0, true⟩,
    ⟨(some (.o (.o (.i (.o .h))))), none, .mov (.s (.i (.i .h))), 0, true⟩,
    ⟨(some (.i (.o (.i (.o .h))))), none, .bin .add (.c (.int .i64 8)) (.s (.o (.o (.i (.o .h))))), 0, true⟩,
    ⟨(some (.o (.i (.i (.o .h))))), none, .mov (.s (.o .h)), 0, true⟩,
    ⟨(some (.i (.i (.i (.o .h))))), none, .bin .and (.s (.o (.i (.i (.o .h))))) (.c (.int .u64 255)), 0, true⟩,
    ⟨(some (.o (.o (.o (.i .h))))), none, .conv .u8 (.s (.i (.i (.i (.o .h))))), 0, true⟩,
    ⟨(some (.i (.o (.o (.i .h))))), none, .ixS 1 (.s (.i (.i (.o (.o .h))))) (.s (.i (.o (.i (.o .h))))), 0, true⟩,
    ⟨none, none, .store 1 (.s (.i (.o (.o (.i .h))))) (.s (.o (.o (.o (.i .h))))), 0, true⟩] 0)
   (.seq (.reg [⟨(some (.o (.i (.o (.i .h))))), none, .mov (.s .h), 0, true⟩,
    ⟨(some (.i (.i (.o (.i .h))))), none, .bin .shr (.s (.o (.i (.o (.i .h))))) (.c (.int .u64 8)), 0, true⟩,
    ⟨(some .h), none, .mov (.s (.i (.i (.o (.i .h))))), 0, true⟩] 0)
   (.reg [⟨(some (.o (.o (.i (.i .h))))), none, .mov (.s (.o .h)), 0, true⟩,
    ⟨(some (.i (.o (.i (.i .h))))), none, .bin .shr (.s (.o (.o (.i (.i .h))))) (.c (.int .u64 8)), 0, true⟩,
    ⟨(some (.o .h)), none, .mov (.s (.i (.o (.i (.i .h))))), 0, true⟩] 0)))))
   (.reg [⟨(some (.i (.i (.o .h)))), none, .mov (.s (.i (.i .h))), 0, true⟩,
    ⟨(some (.o (.o (.i .h)))), none, .bin .sub (.s (.i (.i (.o .h)))) (.c (.int .i64 1)), 0, true⟩,
    ⟨(some (.i (.i .h))), none, .mov (.s (.o (.o (.i .h)))), 0, true⟩] 0))))))
   (.seq (.reg [⟨(some (.o (.i (.i (.i .h))))), none, .mov (.s (.o (.i .h))), 0, true⟩,
    ⟨(some (.i (.i (.i (.i .h))))), none, .b2s (.s (.o (.i (.i (.i .h))))), 0, true⟩,
    ⟨(some (.i (.o .h))), none, .mov (.s (.i (.i (.i (.i .h))))), 0, true⟩] 0)
   .ret)))) }

end Go.Proofs.YtmgbeipdeeegoaaGreatDoor.S

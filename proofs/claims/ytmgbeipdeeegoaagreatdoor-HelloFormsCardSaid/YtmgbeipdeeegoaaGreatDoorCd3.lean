/- The code of the functions, resolved (by a program of this session's, out of Lean's own print): part 3. -/
import Derived.Test.YtmgbeipdeeegoaaGreatDoorCd2
namespace Go.Proofs.YtmgbeipdeeegoaaGreatDoor.S
open Go.AE
set_option maxRecDepth 100000
/-- halberd/gcm.Open -/
noncomputable def d76 : Go.AE.Fd := { np := 4, res := [.tmp (.i (.o (.o .h))), .tmp (.o (.i (.o .h)))], code :=
   (.seq (.reg [⟨(some (.i (.o (.o .h)))), none, .mov (.c (.str [])), 0, true⟩,
    ⟨(some (.o (.i (.o .h)))), none, .mov (.c (.int .i64 0)), 0, true⟩] 0)
   (.seq (.reg [⟨(some (.o (.o (.o (.o .h))))), none, .mov (.s .h), 0, true⟩,
    ⟨(some (.i (.o (.o (.o .h))))), none, .call (.o (.o (.i (.o (.i (.o .h)))))) [(.s (.o (.o (.o (.o .h)))))], 0, true⟩,
    ⟨(some (.i (.i (.i .h)))), none, .mov (.s (.i (.o (.o (.o .h))))), 0, true⟩,
    ⟨(some (.o (.i (.o (.o .h))))), none, .ext 0 (.s (.i (.i (.i .h)))), 0, true⟩,
    ⟨(some (.i (.i (.o (.o .h))))), none, .ext 1 (.s (.i (.i (.i .h)))), 0, true⟩,
    ⟨(some (.i (.i (.o .h)))), none, .mov (.s (.o (.i (.o (.o .h))))), 0, true⟩,
    ⟨(some (.o (.o (.i .h)))), none, .mov (.s (.i (.i (.o (.o .h))))), 0, true⟩] 0)
   (.seq (.seq (.reg [⟨(some (.o (.o (.i (.o .h))))), none, .mov (.s (.o (.o (.i .h)))), 0, true⟩,
    ⟨(some (.i (.o (.i (.o .h))))), none, .un .not (.s (.o (.o (.i (.o .h))))), 0, true⟩,
    ⟨(some (.o (.i (.i (.o .h))))), none, .mov (.s (.i (.o (.i (.o .h))))), 0, true⟩,
    ⟨(some (.i (.i (.i (.o .h))))), (some ((.o (.i (.i (.o .h)))), false)), .mov (.s (.o .h)), 0, true⟩,
    ⟨(some (.o (.o (.o (.i .h))))), (some ((.o (.i (.i (.o .h)))), false)), .mov (.s (.i .h)), 0, true⟩,
    ⟨(some (.i (.o (.o (.i .h))))), (some ((.o (.i (.i (.o .h)))), false)), .mov (.s (.o (.o .h))), 0, true⟩,
    ⟨(some (.o (.i (.o (.i .h))))), (some ((.o (.i (.i (.o .h)))), false)), .lenS (.s (.i (.o (.o (.i .h))))), 0, true⟩,
    ⟨(some (.i (.i (.o (.i .h))))), (some ((.o (.i (.i (.o .h)))), false)), .call (.i (.o (.i (.o (.i (.o .h)))))) [(.s (.i (.i (.i (.o .h))))), (.s (.o (.o (.o (.i .h))))), (.c (.int .i64 65552)), (.s (.o (.i (.o (.i .h)))))], 0, true⟩,
    ⟨(some (.o (.o (.i (.i .h))))), (some ((.o (.i (.i (.o .h)))), false)), .un .not (.s (.i (.i (.o (.i .h))))), 0, true⟩,
    ⟨(some (.i (.o (.i (.i .h))))), none, .pick (.s (.o (.i (.i (.o .h))))) (.c (.bool true)) (.s (.o (.o (.i (.i .h))))), 0, true⟩] 0)
   (.cond (.s (.i (.o (.i (.i .h)))))
   (.seq (.reg [⟨(some (.i (.o (.o .h)))), none, .mov (.c (.str [])), 0, true⟩,
    ⟨(some (.o (.i (.o .h)))), none, .mov (.c (.int .i64 500)), 0, true⟩] 0)
   .ret)
   .skip))
   (.seq (.reg [⟨(some (.o (.i (.i (.i .h))))), none, .mov (.s (.o (.o .h))), 0, true⟩,
    ⟨(some (.i (.i (.i (.i .h))))), none, .lenS (.s (.o (.i (.i (.i .h))))), 0, true⟩,
    ⟨(some (.o (.o (.o (.o (.o .h)))))), none, .bin .sub (.s (.i (.i (.i (.i .h))))) (.c (.int .i64 16)), 0, true⟩,
    ⟨(some (.i (.o (.i .h)))), none, .mov (.s (.o (.o (.o (.o (.o .h)))))), 0, true⟩] 0)
   (.seq (.seq (.reg [⟨(some (.i (.o (.o (.o (.o .h)))))), none, .mov (.s (.i (.o (.i .h)))), 0, true⟩,
    ⟨(some (.o (.i (.o (.o (.o .h)))))), none, .bin .lss (.s (.i (.o (.o (.o (.o .h)))))) (.c (.int .i64 0)), 0, true⟩] 0)
   (.cond (.s (.o (.i (.o (.o (.o .h))))))
   (.seq (.reg [⟨(some (.i (.o (.o .h)))), none, .mov (.c (.str [])), 0, true⟩,
    ⟨(some (.o (.i (.o .h)))), none, .mov (.c (.int .i64 501)), 0, true⟩] 0)
   .ret)
   .skip))
   (.seq (.reg [⟨(some (.i (.i (.o (.o (.o .h)))))), none, .mov (.s (.o (.o .h))), 0, true⟩,
    ⟨(some (.o (.o (.i (.o (.o .h)))))), none, .mov (.s (.i (.o (.i .h)))), 0, true⟩,
    ⟨(some (.i (.o (.i (.o (.o .h)))))), none, .slStr (.s (.i (.i (.o (.o (.o .h)))))) none (some (.s (.o (.o (.i (.o (.o .h))))))), 0, true⟩,
    ⟨(some (.o (.i (.i (.o (.o .h)))))), none, .s2b (.s (.i (.o (.i (.o (.o .h)))))), 0, true⟩,
    ⟨(some (.o (.i (.i .h)))), none, .mov (.s (.o (.i (.i (.o (.o .h)))))), 0, true⟩] 0)
   (.seq (.seq (.reg [⟨(some (.i (.i (.i (.o (.o .h)))))), none, .mov (.s (.i (.i (.o .h)))), 0, false⟩,
    ⟨(some (.o (.o (.o (.i (.o .h)))))), none, .mov (.s (.o .h)), 0, false⟩,
    ⟨(some (.i (.o (.o (.i (.o .h)))))), none, .mov (.s (.i .h)), 0, false⟩,
    ⟨(some (.o (.i (.o (.i (.o .h)))))), none, .mov (.s (.o (.i (.i .h)))), 0, false⟩,
    ⟨(some (.i (.i (.o (.i (.o .h)))))), none, .call (.o (.i (.i (.o (.i (.o .h)))))) [(.s (.i (.i (.i (.o (.o .h)))))), (.s (.o (.o (.o (.i (.o .h)))))), (.s (.i (.o (.o (.i (.o .h)))))), (.s (.o (.i (.o (.i (.o .h))))))], 0, false⟩,
    ⟨(some (.o (.o (.i (.i (.o .h)))))), none, .mov (.s (.o (.o .h))), 0, false⟩,
    ⟨(some (.i (.o (.i (.i (.o .h)))))), none, .mov (.s (.i (.o (.i .h)))), 0, false⟩,
    ⟨(some (.o (.i (.i (.i (.o .h)))))), none, .slStr (.s (.o (.o (.i (.i (.o .h)))))) (some (.s (.i (.o (.i (.i (.o .h))))))) none, 0, false⟩,
    ⟨(some (.i (.i (.i (.i (.o .h)))))), none, .bin .neq (.s (.i (.i (.o (.i (.o .h)))))) (.s (.o (.i (.i (.i (.o .h)))))), 0, false⟩] 48)
   (.cond (.s (.i (.i (.i (.i (.o .h))))))
   (.seq (.reg [⟨(some (.i (.o (.o .h)))), none, .mov (.c (.str [])), 0, true⟩,
    ⟨(some (.o (.i (.o .h)))), none, .mov (.c (.int .i64 501)), 0, true⟩] 0)
   .ret)
   .skip))
   (.seq (.reg [⟨(some (.o (.o (.o (.o (.i .h)))))), none, .mov (.s (.i (.i (.o .h)))), 0, true⟩,
    ⟨(some (.i (.o (.o (.o (.i .h)))))), none, .mov (.s (.o .h)), 0, true⟩,
    ⟨(some (.o (.i (.o (.o (.i .h)))))), none, .mov (.s (.o (.i (.i .h)))), 0, true⟩,
    ⟨(some (.i (.i (.o (.o (.i .h)))))), none, .call (.i (.i (.i (.o (.i (.o .h)))))) [(.s (.o (.o (.o (.o (.i .h)))))), (.s (.i (.o (.o (.o (.i .h)))))), (.s (.o (.i (.o (.o (.i .h))))))], 0, true⟩] 0)
   (.seq (.reg [⟨(some (.o (.o (.i (.o (.i .h)))))), none, .mov (.s (.o (.i (.i .h)))), 0, true⟩,
    ⟨(some (.i (.o (.i (.o (.i .h)))))), none, .b2s (.s (.o (.o (.i (.o (.i .h)))))), 0, true⟩,
    ⟨(some (.i (.o (.o .h)))), none, .mov (.s (.i (.o (.i (.o (.i .h)))))), 0, true⟩,
    ⟨(some (.o (.i (.o .h)))), none, .mov (.c (.int .i64 0)), 0, true⟩] 0)
   .ret))))))))) }

/-- halberd/wire.U16 -/
noncomputable def d77 : Go.AE.Fd := { np := 2, res := [.tmp (.i (.o .h)), .tmp (.o (.i .h)), .tmp (.i (.i .h))], code :=
   (.seq (.reg [⟨(some (.i (.o .h))), none, .mov (.c (.int .i64 0)), 0, true⟩,
    ⟨(some (.o (.i .h))), none, .mov (.c (.int .i64 0)), 0, true⟩,
    ⟨(some (.i (.i .h))), none, .mov (.c (.int .i64 0)), 0, true⟩] 0)
   (.seq (.reg [⟨(some (.o (.o (.o .h)))), none, .mov (.s .h), 0, true⟩,
    ⟨(some (.i (.o (.o .h)))), none, .mov (.s (.o .h)), 0, true⟩,
    ⟨(some (.o (.i (.o .h)))), none, .call (.o (.o (.o (.i (.i (.o .h)))))) [(.s (.o (.o (.o .h)))), (.s (.i (.o (.o .h)))), (.c (.int .i64 2))], 0, true⟩,
    ⟨(some (.i (.i (.o .h)))), none, .ext 0 (.s (.o (.i (.o .h)))), 0, true⟩,
    ⟨(some (.o (.o (.i .h)))), none, .ext 1 (.s (.o (.i (.o .h)))), 0, true⟩,
    ⟨(some (.i (.o (.i .h)))), none, .ext 2 (.s (.o (.i (.o .h)))), 0, true⟩,
    ⟨(some (.i (.o .h))), none, .mov (.s (.i (.i (.o .h)))), 0, true⟩,
    ⟨(some (.o (.i .h))), none, .mov (.s (.o (.o (.i .h)))), 0, true⟩,
    ⟨(some (.i (.i .h))), none, .mov (.s (.i (.o (.i .h)))), 0, true⟩] 0)
   .ret)) }

/-- halberd/wire.U32 -/
noncomputable def d78 : Go.AE.Fd := { np := 2, res := [.tmp (.i (.o .h)), .tmp (.o (.i .h)), .tmp (.i (.i .h))], code :=
   (.seq (.reg [⟨(some (.i (.o .h))), none, .mov (.c (.int .i64 0)), 0, true⟩,
    ⟨(some (.o (.i .h))), none, .mov (.c (.int .i64 0)), 0, true⟩,
    ⟨(some (.i (.i .h))), none, .mov (.c (.int .i64 0)), 0, true⟩] 0)
   (.seq (.reg [⟨(some (.o (.o (.o .h)))), none, .mov (.s .h), 0, true⟩,
    ⟨(some (.i (.o (.o .h)))), none, .mov (.s (.o .h)), 0, true⟩,
    ⟨(some (.o (.i (.o .h)))), none, .call (.o (.o (.o (.i (.i (.o .h)))))) [(.s (.o (.o (.o .h)))), (.s (.i (.o (.o .h)))), (.c (.int .i64 4))], 0, true⟩,
    ⟨(some (.i (.i (.o .h)))), none, .ext 0 (.s (.o (.i (.o .h)))), 0, true⟩,
    ⟨(some (.o (.o (.i .h)))), none, .ext 1 (.s (.o (.i (.o .h)))), 0, true⟩,
    ⟨(some (.i (.o (.i .h)))), none, .ext 2 (.s (.o (.i (.o .h)))), 0, true⟩,
    ⟨(some (.i (.o .h))), none, .mov (.s (.i (.i (.o .h)))), 0, true⟩,
    ⟨(some (.o (.i .h))), none, .mov (.s (.o (.o (.i .h)))), 0, true⟩,
    ⟨(some (.i (.i .h))), none, .mov (.s (.i (.o (.i .h)))), 0, true⟩] 0)
   .ret)) }

/-- halberd/ticket.plain -/
noncomputable def d79 : Go.AE.Fd := { np := 1, res := [.tmp (.i .h), .tmp (.o (.o .h))], code :=
   (.seq (.reg [⟨(some (.o .h)), none, .box (.s .h), 0, true⟩,
    ⟨(some (.i .h)), none, .mov (.c (.str [])), 0, true⟩,
    ⟨(some (.o (.o .h))), none, .mov (.c .nili), 0, true⟩] 0)
   (.seq (.reg [⟨(some (.o (.i (.i .h)))), none, .lea 0 (.s (.o .h)), 0, true⟩,
    ⟨(some (.i (.i (.i .h)))), none, .load false 1 (.s (.o (.i (.i .h)))), 0, true⟩,
    ⟨(some (.o (.o (.o (.o .h))))), none, .call (.i (.i (.o (.i (.o .h))))) [(.s (.i (.i (.i .h))))], 0, true⟩,
    ⟨(some (.i (.o (.i .h)))), none, .mov (.s (.o (.o (.o (.o .h))))), 0, true⟩,
    ⟨(some (.i (.o (.o (.o .h))))), none, .ext 0 (.s (.i (.o (.i .h)))), 0, true⟩,
    ⟨(some (.o (.i (.o (.o .h))))), none, .ext 1 (.s (.i (.o (.i .h)))), 0, true⟩,
    ⟨(some (.i (.i (.o (.o .h))))), none, .ext 2 (.s (.i (.o (.i .h)))), 0, true⟩,
    ⟨(some (.i (.o .h))), none, .mov (.s (.i (.o (.o (.o .h))))), 0, true⟩,
    ⟨(some (.o (.i .h))), none, .mov (.s (.o (.i (.o (.o .h))))), 0, true⟩,
    ⟨(some (.i (.i .h))), none, .mov (.s (.i (.i (.o (.o .h))))), 0, true⟩] 0)
   (.seq (.seq (.reg [⟨(some (.o (.o (.i (.o .h))))), none, .mov (.s (.i (.i .h))), 0, true⟩,
    ⟨(some (.i (.o (.i (.o .h))))), none, .bin .neq (.s (.o (.o (.i (.o .h))))) (.c (.int .i64 0)), 0, true⟩] 0)
   (.cond (.s (.i (.o (.i (.o .h)))))
   (.seq (.reg [⟨(some (.o (.i (.i (.o .h))))), none, .mov (.s (.i (.i .h))), 0, true⟩,
    ⟨(some (.i (.i (.i (.o .h))))), none, .mkif 46 (.s (.o (.i (.i (.o .h))))), 0, true⟩,
    ⟨(some (.o (.o (.o (.i .h))))), none, .build [(.int .i64 0), .nili] [(0, 1, (.c (.int .i64 2000))), (1, 1, (.s (.i (.i (.i (.o .h))))))], 0, true⟩,
    ⟨(some (.i (.o (.o (.i .h))))), none, .mkif 141 (.s (.o (.o (.o (.i .h))))), 0, true⟩,
    ⟨(some (.i .h)), none, .mov (.c (.str [])), 0, true⟩,
    ⟨(some (.o (.o .h))), none, .mov (.s (.i (.o (.o (.i .h))))), 0, true⟩] 0)
   .ret)
   .skip))
   (.seq (.reg [⟨(some (.i (.i (.o (.i .h))))), none, .lea 2 (.s (.o .h)), 0, true⟩,
    ⟨(some (.o (.o (.i (.i .h))))), none, .load false 1 (.s (.i (.i (.o (.i .h))))), 0, true⟩,
    ⟨(some (.i (.o (.i (.i .h))))), none, .call (.i (.o (.o (.i (.i (.o .h)))))) [(.s (.o (.o (.i (.i .h))))), (.c (.int .i64 4))], 0, true⟩,
    ⟨(some (.o (.i (.o (.i .h))))), none, .mov (.s (.i (.o (.i (.i .h))))), 0, true⟩,
    ⟨(some (.o (.i (.i (.i .h))))), none, .ext 0 (.s (.o (.i (.o (.i .h))))), 0, true⟩,
    ⟨(some (.i (.i (.i (.i .h))))), none, .ext 1 (.s (.o (.i (.o (.i .h))))), 0, true⟩,
    ⟨(some (.o (.o (.o .h)))), none, .mov (.s (.o (.i (.i (.i .h))))), 0, true⟩,
    ⟨(some (.i (.i .h))), none, .mov (.s (.i (.i (.i (.i .h))))), 0, true⟩] 0)
   (.seq (.reg [⟨(some (.i (.o (.o (.o (.o .h)))))), none, .lea 3 (.s (.o .h)), 0, true⟩,
    ⟨(some (.o (.i (.o (.o (.o .h)))))), none, .load false 1 (.s (.i (.o (.o (.o (.o .h)))))), 0, true⟩,
    ⟨(some (.i (.i (.o (.o (.o .h)))))), none, .call (.i (.o (.o (.i (.i (.o .h)))))) [(.s (.o (.i (.o (.o (.o .h)))))), (.c (.int .i64 4))], 0, true⟩,
    ⟨(some (.o (.o (.o (.o (.o .h)))))), none, .mov (.s (.i (.i (.o (.o (.o .h)))))), 0, true⟩,
    ⟨(some (.o (.o (.i (.o (.o .h)))))), none, .ext 0 (.s (.o (.o (.o (.o (.o .h)))))), 0, true⟩,
    ⟨(some (.i (.o (.i (.o (.o .h)))))), none, .ext 1 (.s (.o (.o (.o (.o (.o .h)))))), 0, true⟩,
    ⟨(some (.i (.o (.o .h)))), none, .mov (.s (.o (.o (.i (.o (.o .h)))))), 0, true⟩,
    ⟨(some (.o (.i (.o .h)))), none, .mov (.s (.i (.o (.i (.o (.o .h)))))), 0, true⟩] 0)
   (.seq (.seq (.reg [⟨(some (.o (.i (.i (.o (.o .h)))))), none, .mov (.s (.i (.i .h))), 0, true⟩,
    ⟨(some (.i (.i (.i (.o (.o .h)))))), none, .mov (.s (.o (.i (.o .h)))), 0, true⟩,
    ⟨(some (.o (.o (.o (.i (.o .h)))))), none, .bsl 1 2 [(.int .i64 0), (.int .i64 0)] [(0, 1, (.s (.o (.i (.i (.o (.o .h))))))), (1, 1, (.s (.i (.i (.i (.o (.o .h)))))))], 0, true⟩,
    ⟨(some (.i (.o (.o (.i (.o .h)))))), none, .len (.s (.o (.o (.o (.i (.o .h)))))), 0, true⟩,
    ⟨(some (.o (.i (.o (.i (.o .h)))))), none, .mov (.c (.int .i64 0)), 0, true⟩] 0)
   (.block 0 (.loop (.seq (.reg [⟨(some (.i (.i (.o (.i (.o .h)))))), none, .bin .lss (.s (.o (.i (.o (.i (.o .h)))))) (.s (.i (.o (.o (.i (.o .h)))))), 0, true⟩] 0)
   (.seq (.cond (.s (.i (.i (.o (.i (.o .h))))))
   .skip
   (.exit 0))
   (.seq (.block 1 (.seq (.reg [⟨(some (.o (.o (.i (.i (.o .h)))))), none, .ixS 1 (.s (.o (.o (.o (.i (.o .h)))))) (.s (.o (.i (.o (.i (.o .h)))))), 0, true⟩,
    ⟨(some (.i (.o (.i (.i (.o .h)))))), none, .load false 1 (.s (.o (.o (.i (.i (.o .h)))))), 0, true⟩,
    ⟨(some (.o (.o (.i .h)))), none, .mov (.s (.i (.o (.i (.i (.o .h)))))), 0, true⟩] 0)
   (.seq (.reg [⟨(some (.o (.i (.i (.i (.o .h)))))), none, .mov (.s (.o (.o (.i .h)))), 0, true⟩,
    ⟨(some (.i (.i (.i (.i (.o .h)))))), none, .bin .neq (.s (.o (.i (.i (.i (.o .h)))))) (.c (.int .i64 0)), 0, true⟩] 0)
   (.cond (.s (.i (.i (.i (.i (.o .h))))))
   (.seq (.reg [⟨(some (.o (.o (.o (.o (.i .h)))))), none, .mov (.s (.o (.o (.i .h)))), 0, true⟩,
    ⟨(some (.i (.o (.o (.o (.i .h)))))), none, .mkif 46 (.s (.o (.o (.o (.o (.i .h)))))), 0, true⟩,
    ⟨(some (.o (.i (.o (.o (.i .h)))))), none, .build [(.int .i64 0), .nili] [(0, 1, (.c (.int .i64 2000))), (1, 1, (.s (.i (.o (.o (.o (.i .h)))))))], 0, true⟩,
    ⟨(some (.i (.i (.o (.o (.i .h)))))), none, .mkif 141 (.s (.o (.i (.o (.o (.i .h)))))), 0, true⟩,
    ⟨(some (.i .h)), none, .mov (.c (.str [])), 0, true⟩,
    ⟨(some (.o (.o .h))), none, .mov (.s (.i (.i (.o (.o (.i .h)))))), 0, true⟩] 0)
   .ret)
   .skip))))
   (.reg [⟨(some (.o (.o (.i (.o (.i .h)))))), none, .bin .add (.s (.o (.i (.o (.i (.o .h)))))) (.c (.int .i64 1)), 0, true⟩,
    ⟨(some (.o (.i (.o (.i (.o .h)))))), none, .mov (.s (.o (.o (.i (.o (.i .h)))))), 0, true⟩] 0)))))))
   (.seq (.seq (.reg [⟨(some (.i (.o (.i (.o (.i .h)))))), none, .lea 1 (.s (.o .h)), 0, true⟩,
    ⟨(some (.o (.i (.i (.o (.i .h)))))), none, .load false 1 (.s (.i (.o (.i (.o (.i .h)))))), 0, true⟩,
    ⟨(some (.i (.i (.i (.o (.i .h)))))), none, .lenS (.s (.o (.i (.i (.o (.i .h)))))), 0, true⟩,
    ⟨(some (.o (.o (.o (.i (.i .h)))))), none, .mov (.s (.o (.i .h))), 0, true⟩,
    ⟨(some (.i (.o (.o (.i (.i .h)))))), none, .bin .quo (.s (.o (.o (.o (.i (.i .h)))))) (.c (.int .i64 8)), 0, true⟩,
    ⟨(some (.o (.i (.o (.i (.i .h)))))), none, .bin .neq (.s (.i (.i (.i (.o (.i .h)))))) (.s (.i (.o (.o (.i (.i .h)))))), 0, true⟩] 0)
   (.cond (.s (.o (.i (.o (.i (.i .h))))))
   (.seq (.reg [⟨(some (.i (.i (.o (.i (.i .h)))))), none, .mkif 46 (.c (.int .i64 2000)), 0, true⟩,
    ⟨(some (.i .h)), none, .mov (.c (.str [])), 0, true⟩,
    ⟨(some (.o (.o .h))), none, .mov (.s (.i (.i (.o (.i (.i .h)))))), 0, true⟩] 0)
   .ret)
   .skip))
   (.seq (.reg [⟨(some (.o (.o (.i (.i (.i .h)))))), none, .lea 0 (.s (.o .h)), 0, false⟩,
    ⟨(some (.i (.o (.i (.i (.i .h)))))), none, .load false 1 (.s (.o (.o (.i (.i (.i .h)))))), 0, false⟩,
    ⟨(some (.o (.i (.i (.i (.i .h)))))), none, .call (.o (.i (.o (.i (.i (.o .h)))))) [(.s (.i (.o (.i (.i (.i .h)))))), (.c (.int .i64 2))], 0, false⟩,
    ⟨(some (.i (.i (.i (.i (.i .h)))))), none, .mov (.s (.o (.o (.o .h)))), 0, false⟩,
    ⟨(some (.o (.o (.o (.o (.o (.o .h))))))), none, .bin .add (.s (.o (.i (.i (.i (.i .h)))))) (.s (.i (.i (.i (.i (.i .h)))))), 0, false⟩,
    ⟨(some (.i (.o (.o (.o (.o (.o .h))))))), none, .mov (.s (.i (.o (.o .h)))), 0, false⟩,
    ⟨(some (.o (.i (.o (.o (.o (.o .h))))))), none, .bin .add (.s (.o (.o (.o (.o (.o (.o .h))))))) (.s (.i (.o (.o (.o (.o (.o .h))))))), 0, false⟩,
    ⟨(some (.i (.i (.o (.o (.o (.o .h))))))), none, .lea 1 (.s (.o .h)), 0, false⟩,
    ⟨(some (.o (.o (.i (.o (.o (.o .h))))))), none, .load false 1 (.s (.i (.i (.o (.o (.o (.o .h))))))), 0, false⟩,
    ⟨(some (.i (.o (.i (.o (.o (.o .h))))))), none, .bin .add (.s (.o (.i (.o (.o (.o (.o .h))))))) (.s (.o (.o (.i (.o (.o (.o .h))))))), 0, false⟩,
    ⟨(some (.i .h)), none, .mov (.s (.i (.o (.i (.o (.o (.o .h))))))), 0, false⟩,
    ⟨(some (.o (.o .h))), none, .mov (.c .nili), 0, false⟩] 0)
   .ret)))))))) }

/-- halberd/num.add -/
noncomputable def d81 : Go.AE.Fd := { np := 2, res := [.cell (.i (.o .h)) true 4, .tmp (.o (.i .h))], code :=
   (.seq (.reg [⟨(some (.i .h)), none, .box (.s .h), 0, true⟩,
    ⟨(some (.o (.o .h))), none, .box (.s (.o .h)), 0, true⟩,
    ⟨(some (.i (.o .h))), none, .alloc [(.int .u64 0), (.int .u64 0), (.int .u64 0), (.int .u64 0)], 0, true⟩,
    ⟨(some (.o (.i .h))), none, .mov (.c (.int .u64 0)), 0, true⟩] 0)
   (.seq (.reg [⟨(some (.i (.i .h))), none, .alloc [(.int .u64 0), (.int .u64 0), (.int .u64 0), (.int .u64 0)], 0, true⟩] 0)
   (.seq (.reg [⟨(some (.o (.o (.o .h)))), none, .mov (.c (.int .u64 0)), 0, true⟩] 0)
   (.seq (.seq (.reg [⟨(some (.o (.i (.o .h)))), none, .mov (.c (.int .i64 0)), 0, true⟩] 0)
   (.block 0 (.loop (.seq (.reg [⟨(some (.i (.i (.o .h)))), none, .bin .lss (.s (.o (.i (.o .h)))) (.c (.int .i64 4)), 0, true⟩] 0)
   (.seq (.cond (.s (.i (.i (.o .h))))
   .skip
   (.exit 0))
   (.seq (.block 1 (.seq (.reg [⟨(some (.o (.o (.i .h)))), none, .mov (.s (.o (.i (.o .h)))), 0, true⟩,
    ⟨(some (.i (.o (.o .h)))), none, .mov (.s (.o (.o (.i .h)))), 0, true⟩] 0)
   (.reg [⟨(some (.o (.i (.i .h)))), none, .mov (.s (.i (.o (.o .h)))), 0, false⟩,
    ⟨(some (.i (.i (.i .h)))), none, .mov (.s (.i (.o (.o .h)))), 0, false⟩,
    ⟨(some (.o (.o (.o (.o .h))))), none, .ixA 4 1 (.s (.i .h)) (.s (.i (.i (.i .h)))), 0, false⟩,
    ⟨(some (.i (.o (.o (.o .h))))), none, .load false 1 (.s (.o (.o (.o (.o .h))))), 0, false⟩,
    ⟨(some (.o (.i (.o (.o .h))))), none, .mov (.s (.i (.o (.o .h)))), 0, false⟩,
    ⟨(some (.i (.i (.o (.o .h))))), none, .ixA 4 1 (.s (.o (.o .h))) (.s (.o (.i (.o (.o .h))))), 0, false⟩,
    ⟨(some (.o (.o (.i (.o .h))))), none, .load false 1 (.s (.i (.i (.o (.o .h))))), 0, false⟩,
    ⟨(some (.i (.o (.i (.o .h))))), none, .mov (.s (.o (.o (.o .h)))), 0, false⟩,
    ⟨(some (.o (.i (.i (.o .h))))), none, .add64 (.s (.i (.o (.o (.o .h))))) (.s (.o (.o (.i (.o .h))))) (.s (.i (.o (.i (.o .h))))), 0, false⟩,
    ⟨(some (.i (.o (.i .h)))), none, .mov (.s (.o (.i (.i (.o .h))))), 0, false⟩,
    ⟨(some (.i (.i (.i (.o .h))))), none, .ext 0 (.s (.i (.o (.i .h)))), 0, false⟩,
    ⟨(some (.o (.o (.o (.i .h))))), none, .ext 1 (.s (.i (.o (.i .h)))), 0, false⟩,
    ⟨(some (.i (.o (.o (.i .h))))), none, .ixA 4 1 (.s (.i (.i .h))) (.s (.o (.i (.i .h)))), 0, false⟩,
    ⟨none, none, .store 1 (.s (.i (.o (.o (.i .h))))) (.s (.i (.i (.i (.o .h))))), 0, false⟩,
    ⟨(some (.o (.o (.o .h)))), none, .mov (.s (.o (.o (.o (.i .h))))), 0, false⟩] 0)))
   (.reg [⟨(some (.o (.i (.o (.i .h))))), none, .bin .add (.s (.o (.i (.o .h)))) (.c (.int .i64 1)), 0, true⟩,
    ⟨(some (.o (.i (.o .h)))), none, .mov (.s (.o (.i (.o (.i .h))))), 0, true⟩] 0)))))))
   (.seq (.reg [⟨(some (.i (.i (.o (.i .h))))), none, .load true 4 (.s (.i (.i .h))), 0, true⟩,
    ⟨(some (.o (.o (.i (.i .h))))), none, .mov (.s (.o (.o (.o .h)))), 0, true⟩,
    ⟨none, none, .store 4 (.s (.i (.o .h))) (.s (.i (.i (.o (.i .h))))), 0, true⟩,
    ⟨(some (.o (.i .h))), none, .mov (.s (.o (.o (.i (.i .h))))), 0, true⟩] 0)
   .ret))))) }

/-- halberd/num.sub -/
noncomputable def d82 : Go.AE.Fd := { np := 2, res := [.cell (.i (.o .h)) true 4, .tmp (.o (.i .h))], code :=
   (.seq (.reg [⟨(some (.i .h)), none, .box (.s .h), 0, true⟩,
    ⟨(some (.o (.o .h))), none, .box (.s (.o .h)), 0, true⟩,
    ⟨(some (.i (.o .h))), none, .alloc [(.int .u64 0), (.int .u64 0), (.int .u64 0), (.int .u64 0)], 0, true⟩,
    ⟨(some (.o (.i .h))), none, .mov (.c (.int .u64 0)), 0, true⟩] 0)
   (.seq (.reg [⟨(some (.i (.i .h))), none, .alloc [(.int .u64 0), (.int .u64 0), (.int .u64 0), (.int .u64 0)], 0, true⟩] 0)
   (.seq (.reg [⟨(some (.o (.o (.o .h)))), none, .mov (.c (.int .u64 0)), 0, true⟩] 0)
   (.seq (.seq (.reg [⟨(some (.o (.i (.o .h)))), none, .mov (.c (.int .i64 0)), 0, true⟩] 0)
   (.block 0 (.loop (.seq (.reg [⟨(some (.i (.i (.o .h)))), none, .bin .lss (.s (.o (.i (.o .h)))) (.c (.int .i64 4)), 0, true⟩] 0)
   (.seq (.cond (.s (.i (.i (.o .h))))
   .skip
   (.exit 0))
   (.seq (.block 1 (.seq (.reg [⟨(some (.o (.o (.i .h)))), none, .mov (.s (.o (.i (.o .h)))), 0, true⟩,
    ⟨(some (.i (.o (.o .h)))), none, .mov (.s (.o (.o (.i .h)))), 0, true⟩] 0)
   (.reg [⟨(some (.o (.i (.i .h)))), none, .mov (.s (.i (.o (.o .h)))), 0, false⟩,
    ⟨(some (.i (.i (.i .h)))), none, .mov (.s (.i (.o (.o .h)))), 0, false⟩,
    ⟨(some (.o (.o (.o (.o .h))))), none, .ixA 4 1 (.s (.i .h)) (.s (.i (.i (.i .h)))), 0, false⟩,
    ⟨(some (.i (.o (.o (.o .h))))), none, .load false 1 (.s (.o (.o (.o (.o .h))))), 0, false⟩,
    ⟨(some (.o (.i (.o (.o .h))))), none, .mov (.s (.i (.o (.o .h)))), 0, false⟩,
    ⟨(some (.i (.i (.o (.o .h))))), none, .ixA 4 1 (.s (.o (.o .h))) (.s (.o (.i (.o (.o .h))))), 0, false⟩,
    ⟨(some (.o (.o (.i (.o .h))))), none, .load false 1 (.s (.i (.i (.o (.o .h))))), 0, false⟩,
    ⟨(some (.i (.o (.i (.o .h))))), none, .mov (.s (.o (.o (.o .h)))), 0, false⟩,
    ⟨(some (.o (.i (.i (.o .h))))), none, .sub64 (.s (.i (.o (.o (.o .h))))) (.s (.o (.o (.i (.o .h))))) (.s (.i (.o (.i (.o .h))))), 0, false⟩,
    ⟨(some (.i (.o (.i .h)))), none, .mov (.s (.o (.i (.i (.o .h))))), 0, false⟩,
    ⟨(some (.i (.i (.i (.o .h))))), none, .ext 0 (.s (.i (.o (.i .h)))), 0, false⟩,
    ⟨(some (.o (.o (.o (.i .h))))), none, .ext 1 (.s (.i (.o (.i .h)))), 0, false⟩,
    ⟨(some (.i (.o (.o (.i .h))))), none, .ixA 4 1 (.s (.i (.i .h))) (.s (.o (.i (.i .h)))), 0, false⟩,
    ⟨none, none, .store 1 (.s (.i (.o (.o (.i .h))))) (.s (.i (.i (.i (.o .h))))), 0, false⟩,
    ⟨(some (.o (.o (.o .h)))), none, .mov (.s (.o (.o (.o (.i .h))))), 0, false⟩] 0)))
   (.reg [⟨(some (.o (.i (.o (.i .h))))), none, .bin .add (.s (.o (.i (.o .h)))) (.c (.int .i64 1)), 0, true⟩,
    ⟨(some (.o (.i (.o .h)))), none, .mov (.s (.o (.i (.o (.i .h))))), 0, true⟩] 0)))))))
   (.seq (.reg [⟨(some (.i (.i (.o (.i .h))))), none, .load true 4 (.s (.i (.i .h))), 0, true⟩,
    ⟨(some (.o (.o (.i (.i .h))))), none, .mov (.s (.o (.o (.o .h)))), 0, true⟩,
    ⟨none, none, .store 4 (.s (.i (.o .h))) (.s (.i (.i (.o (.i .h))))), 0, true⟩,
    ⟨(some (.o (.i .h))), none, .mov (.s (.o (.o (.i (.i .h))))), 0, true⟩] 0)
   .ret))))) }

/-- halberd/gcm.New -/
noncomputable def d83 : Go.AE.Fd := { np := 1, res := [.tmp (.i .h), .tmp (.o (.o .h))], code :=
   (.seq (.reg [⟨(some (.i .h)), none, .mov (.c .nilp), 0, true⟩,
    ⟨(some (.o (.o .h))), none, .mov (.c (.bool false)), 0, true⟩] 0)
   (.seq (.reg [⟨(some (.i (.o (.o .h)))), none, .mov (.s .h), 0, true⟩,
    ⟨(some (.o (.i (.o .h)))), none, .call (.i (.o (.o (.o (.o (.i .h)))))) [(.s (.i (.o (.o .h))))], 0, true⟩,
    ⟨(some (.o (.o (.o .h)))), none, .mov (.s (.o (.i (.o .h)))), 0, true⟩,
    ⟨(some (.i (.i (.o .h)))), none, .ext 0 (.s (.o (.o (.o .h)))), 0, true⟩,
    ⟨(some (.o (.o (.i .h)))), none, .ext 1 (.s (.o (.o (.o .h)))), 0, true⟩,
    ⟨(some (.i (.o .h))), none, .mov (.s (.i (.i (.o .h)))), 0, true⟩,
    ⟨(some (.o (.i .h))), none, .mov (.s (.o (.o (.i .h)))), 0, true⟩] 0)
   (.seq (.seq (.reg [⟨(some (.i (.o (.i .h)))), none, .mov (.s (.o (.i .h))), 0, true⟩,
    ⟨(some (.o (.i (.i .h)))), none, .un .not (.s (.i (.o (.i .h)))), 0, true⟩] 0)
   (.cond (.s (.o (.i (.i .h))))
   (.seq (.reg [⟨(some (.i .h)), none, .mov (.c .nilp), 0, true⟩,
    ⟨(some (.o (.o .h))), none, .mov (.c (.bool false)), 0, true⟩] 0)
   .ret)
   .skip))
   (.seq (.reg [⟨(some (.i (.i (.i .h)))), none, .mov (.s (.i (.o .h))), 0, true⟩,
    ⟨(some (.o (.o (.o (.o .h))))), none, .build [(.int .u8 0), (.int .u8 0), (.int .u8 0), (.int .u8 0), (.int .u8 0), (.int .u8 0), (.int .u8 0), (.int .u8 0), (.int .u8 0), (.int .u8 0), (.int .u8 0), (.int .u8 0), (.int .u8 0), (.int .u8 0), (.int .u8 0), (.int .u8 0)] [], 0, true⟩,
    ⟨(some (.i (.o (.o (.o .h))))), none, .call (.o (.i (.o (.o (.o (.i .h)))))) [(.s (.i (.i (.i .h)))), (.s (.o (.o (.o (.o .h)))))], 0, true⟩,
    ⟨(some (.i (.i .h))), none, .alloc [(.int .u8 0), (.int .u8 0), (.int .u8 0), (.int .u8 0), (.int .u8 0), (.int .u8 0), (.int .u8 0), (.int .u8 0), (.int .u8 0), (.int .u8 0), (.int .u8 0), (.int .u8 0), (.int .u8 0), (.int .u8 0), (.int .u8 0), (.int .u8 0)], 0, true⟩,
    ⟨none, none, .store 16 (.s (.i (.i .h))) (.s (.i (.o (.o (.o .h))))), 0, true⟩] 0)
   (.seq (.reg [⟨(some (.o (.i (.o (.o .h))))), none, .mov (.s (.i (.o .h))), 0, true⟩,
    ⟨(some (.i (.i (.o (.o .h))))), none, .slArr 16 1 (.s (.i (.i .h))) none none, 0, true⟩,
    ⟨(some (.o (.o (.i (.o .h))))), none, .call (.i (.i (.o (.o (.o (.i .h)))))) [(.s (.i (.i (.o (.o .h)))))], 0, true⟩,
    ⟨(some (.i (.o (.i (.o .h))))), none, .build [.nilp, (.int .u64 0), (.int .u64 0)] [(0, 1, (.s (.o (.i (.o (.o .h)))))), (1, 2, (.s (.o (.o (.i (.o .h))))))], 0, true⟩,
    ⟨(some (.o (.i (.i (.o .h))))), none, .box (.s (.i (.o (.i (.o .h))))), 0, true⟩,
    ⟨(some (.i .h)), none, .mov (.s (.o (.i (.i (.o .h))))), 0, true⟩,
    ⟨(some (.o (.o .h))), none, .mov (.c (.bool true)), 0, true⟩] 0)
   .ret))))) }

/-- halberd/gcm.may -/
noncomputable def d84 : Go.AE.Fd := { np := 4, res := [.tmp (.i (.o (.o .h)))], code :=
   (.seq (.reg [⟨(some (.i (.o (.o .h)))), none, .mov (.c (.bool false)), 0, true⟩] 0)
   (.seq (.reg [⟨(some (.o (.i (.o .h)))), none, .mov (.s .h), 0, true⟩,
    ⟨(some (.i (.i (.o .h)))), none, .lenS (.s (.o (.i (.o .h)))), 0, true⟩,
    ⟨(some (.o (.o (.i .h)))), none, .bin .eql (.s (.i (.i (.o .h)))) (.c (.int .i64 12)), 0, true⟩,
    ⟨(some (.i (.o (.i .h)))), none, .mov (.s (.o (.o (.i .h)))), 0, true⟩,
    ⟨(some (.o (.i (.i .h)))), (some ((.i (.o (.i .h))), true)), .mov (.s (.o .h)), 0, true⟩,
    ⟨(some (.i (.i (.i .h)))), (some ((.i (.o (.i .h))), true)), .lenS (.s (.o (.i (.i .h)))), 0, true⟩,
    ⟨(some (.o (.o (.o (.o .h))))), (some ((.i (.o (.i .h))), true)), .bin .leq (.s (.i (.i (.i .h)))) (.c (.int .i64 65536)), 0, true⟩,
    ⟨(some (.i (.o (.o (.o .h))))), none, .pick (.s (.i (.o (.i .h)))) (.s (.o (.o (.o (.o .h))))) (.c (.bool false)), 0, true⟩,
    ⟨(some (.o (.i (.o (.o .h))))), none, .mov (.s (.i (.o (.o (.o .h))))), 0, true⟩,
    ⟨(some (.i (.i (.o (.o .h))))), (some ((.o (.i (.o (.o .h)))), true)), .mov (.s (.o (.o .h))), 0, true⟩,
    ⟨(some (.o (.o (.i (.o .h))))), (some ((.o (.i (.o (.o .h)))), true)), .mov (.s (.i .h)), 0, true⟩,
    ⟨(some (.i (.o (.i (.o .h))))), (some ((.o (.i (.o (.o .h)))), true)), .bin .leq (.s (.i (.i (.o (.o .h))))) (.s (.o (.o (.i (.o .h))))), 0, true⟩,
    ⟨(some (.o (.i (.i (.o .h))))), none, .pick (.s (.o (.i (.o (.o .h))))) (.s (.i (.o (.i (.o .h))))) (.c (.bool false)), 0, true⟩,
    ⟨(some (.i (.o (.o .h)))), none, .mov (.s (.o (.i (.i (.o .h))))), 0, true⟩] 0)
   .ret)) }

/-- (*halberd/gcm.Cipher).Tag -/
noncomputable def d85 : Go.AE.Fd := { np := 4, res := [.tmp (.i (.o (.o .h)))], code :=
   (.seq (.reg [⟨(some (.i (.o (.o .h)))), none, .mov (.c (.str [])), 0, true⟩] 0)
   (.seq (.reg [⟨(some (.o (.o (.o (.o .h))))), none, .mov (.s .h), 0, true⟩,
    ⟨(some (.i (.o (.o (.o .h))))), none, .nilc (.s (.o (.o (.o (.o .h))))), 0, true⟩,
    ⟨(some (.o (.i (.o (.o .h))))), none, .lea 1 (.s (.i (.o (.o (.o .h))))), 0, true⟩,
    ⟨(some (.i (.i (.o (.o .h))))), none, .load true 2 (.s (.o (.i (.o (.o .h))))), 0, true⟩,
    ⟨(some (.o (.o (.i (.o .h))))), none, .call (.o (.o (.i (.o (.o (.i .h)))))) [(.s (.i (.i (.o (.o .h)))))], 0, true⟩,
    ⟨(some (.o (.i (.o .h)))), none, .mov (.s (.o (.o (.i (.o .h))))), 0, true⟩] 0)
   (.seq (.reg [⟨(some (.i (.o (.i (.o .h))))), none, .mov (.s (.o (.i (.o .h)))), 0, true⟩,
    ⟨(some (.o (.i (.i (.o .h))))), none, .mov (.s (.i .h)), 0, true⟩,
    ⟨(some (.i (.i (.i (.o .h))))), none, .s2b (.s (.o (.i (.i (.o .h))))), 0, true⟩,
    ⟨(some (.o (.o (.o (.i .h))))), none, .call (.i (.o (.i (.o (.o (.i .h)))))) [(.s (.i (.o (.i (.o .h))))), (.s (.i (.i (.i (.o .h)))))], 0, true⟩] 0)
   (.seq (.reg [⟨(some (.i (.o (.o (.i .h))))), none, .mov (.s (.o (.i (.o .h)))), 0, true⟩,
    ⟨(some (.o (.i (.o (.i .h))))), none, .mov (.s (.o (.o .h))), 0, true⟩,
    ⟨(some (.i (.i (.o (.i .h))))), none, .call (.i (.o (.i (.o (.o (.i .h)))))) [(.s (.i (.o (.o (.i .h))))), (.s (.o (.i (.o (.i .h)))))], 0, true⟩] 0)
   (.seq (.reg [⟨(some (.o (.o (.i (.i .h))))), none, .mov (.s (.i .h)), 0, true⟩,
    ⟨(some (.i (.o (.i (.i .h))))), none, .lenS (.s (.o (.o (.i (.i .h))))), 0, true⟩,
    ⟨(some (.o (.i (.i (.i .h))))), none, .conv .u64 (.s (.i (.o (.i (.i .h))))), 0, true⟩,
    ⟨(some (.i (.i (.i (.i .h))))), none, .bin .mul (.s (.o (.i (.i (.i .h))))) (.c (.int .u64 8)), 0, true⟩,
    ⟨(some (.o (.o (.o (.o (.o .h)))))), none, .mov (.s (.o (.o .h))), 0, true⟩,
    ⟨(some (.i (.o (.o (.o (.o .h)))))), none, .len (.s (.o (.o (.o (.o (.o .h)))))), 0, true⟩,
    ⟨(some (.o (.i (.o (.o (.o .h)))))), none, .conv .u64 (.s (.i (.o (.o (.o (.o .h)))))), 0, true⟩,
    ⟨(some (.i (.i (.o (.o (.o .h)))))), none, .bin .mul (.s (.o (.i (.o (.o (.o .h)))))) (.c (.int .u64 8)), 0, true⟩,
    ⟨(some (.o (.o (.i (.o (.o .h)))))), none, .build [(.int .u64 0), (.int .u64 0)] [(0, 1, (.s (.i (.i (.i (.i .h)))))), (1, 1, (.s (.i (.i (.o (.o (.o .h)))))))], 0, true⟩,
    ⟨(some (.i (.i (.o .h)))), none, .alloc [(.int .u64 0), (.int .u64 0)], 0, true⟩,
    ⟨none, none, .store 2 (.s (.i (.i (.o .h)))) (.s (.o (.o (.i (.o (.o .h)))))), 0, true⟩] 0)
   (.seq (.reg [⟨(some (.i (.o (.i (.o (.o .h)))))), none, .load true 2 (.s (.i (.i (.o .h)))), 0, true⟩,
    ⟨(some (.o (.i (.i (.o (.o .h)))))), none, .call (.o (.i (.i (.o (.o (.i .h)))))) [(.s (.i (.o (.i (.o (.o .h))))))], 0, true⟩,
    ⟨(some (.o (.o (.i .h)))), none, .alloc [(.int .u8 0), (.int .u8 0), (.int .u8 0), (.int .u8 0), (.int .u8 0), (.int .u8 0), (.int .u8 0), (.int .u8 0), (.int .u8 0), (.int .u8 0), (.int .u8 0), (.int .u8 0), (.int .u8 0), (.int .u8 0), (.int .u8 0), (.int .u8 0)], 0, true⟩,
    ⟨none, none, .store 16 (.s (.o (.o (.i .h)))) (.s (.o (.i (.i (.o (.o .h)))))), 0, true⟩] 0)
   (.seq (.reg [⟨(some (.i (.i (.i (.o (.o .h)))))), none, .mov (.s (.o (.i (.o .h)))), 0, true⟩,
    ⟨(some (.o (.o (.o (.i (.o .h)))))), none, .slArr 16 1 (.s (.o (.o (.i .h)))) none none, 0, true⟩,
    ⟨(some (.i (.o (.o (.i (.o .h)))))), none, .call (.i (.i (.i (.o (.o (.i .h)))))) [(.s (.i (.i (.i (.o (.o .h)))))), (.s (.o (.o (.o (.i (.o .h))))))], 0, true⟩] 0)
   (.seq (.reg [⟨(some (.o (.i (.o (.i (.o .h)))))), none, .mov (.s (.o (.i (.o .h)))), 0, true⟩,
    ⟨(some (.i (.i (.o (.i (.o .h)))))), none, .nilc (.s (.o (.i (.o (.i (.o .h)))))), 0, true⟩,
    ⟨(some (.o (.o (.i (.i (.o .h)))))), none, .lea 48 (.s (.i (.i (.o (.i (.o .h)))))), 0, true⟩,
    ⟨(some (.i (.o (.i (.i (.o .h)))))), none, .load true 2 (.s (.o (.o (.i (.i (.o .h)))))), 0, true⟩,
    ⟨(some (.o (.i (.i (.i (.o .h)))))), none, .call (.o (.i (.i (.o (.o (.i .h)))))) [(.s (.i (.o (.i (.i (.o .h))))))], 0, true⟩,
    ⟨(some (.i (.o (.i .h)))), none, .alloc [(.int .u8 0), (.int .u8 0), (.int .u8 0), (.int .u8 0), (.int .u8 0), (.int .u8 0), (.int .u8 0), (.int .u8 0), (.int .u8 0), (.int .u8 0), (.int .u8 0), (.int .u8 0), (.int .u8 0), (.int .u8 0), (.int .u8 0), (.int .u8 0)], 0, true⟩,
    ⟨none, none, .store 16 (.s (.i (.o (.i .h)))) (.s (.o (.i (.i (.i (.o .h)))))), 0, true⟩] 0)
   (.seq (.reg [⟨(some (.i (.i (.i (.i (.o .h)))))), none, .mov (.s .h), 0, false⟩,
    ⟨(some (.o (.o (.o (.o (.i .h)))))), none, .nilc (.s (.i (.i (.i (.i (.o .h)))))), 0, false⟩,
    ⟨(some (.i (.o (.o (.o (.i .h)))))), none, .lea 0 (.s (.o (.o (.o (.o (.i .h)))))), 0, false⟩,
    ⟨(some (.o (.i (.o (.o (.i .h)))))), none, .load false 1 (.s (.i (.o (.o (.o (.i .h)))))), 0, false⟩,
    ⟨(some (.i (.i (.o (.o (.i .h)))))), none, .mov (.s (.o .h)), 0, false⟩,
    ⟨(some (.o (.o (.i (.o (.i .h)))))), none, .call (.o (.o (.o (.i (.o (.i .h)))))) [(.s (.i (.i (.o (.o (.i .h)))))), (.c (.int .u32 1))], 0, false⟩,
    ⟨(some (.i (.o (.i (.o (.i .h)))))), none, .call (.o (.i (.o (.o (.o (.i .h)))))) [(.s (.o (.i (.o (.o (.i .h)))))), (.s (.o (.o (.i (.o (.i .h))))))], 48, false⟩,
    ⟨(some (.o (.i (.i .h)))), none, .alloc [(.int .u8 0), (.int .u8 0), (.int .u8 0), (.int .u8 0), (.int .u8 0), (.int .u8 0), (.int .u8 0), (.int .u8 0), (.int .u8 0), (.int .u8 0), (.int .u8 0), (.int .u8 0), (.int .u8 0), (.int .u8 0), (.int .u8 0), (.int .u8 0)], 96, false⟩,
    ⟨none, none, .store 16 (.s (.o (.i (.i .h)))) (.s (.i (.o (.i (.o (.i .h)))))), 0, false⟩] 97)
   (.seq (.seq (.reg [⟨(some (.o (.i (.i (.o (.i .h)))))), none, .mov (.c (.int .i64 0)), 0, true⟩] 0)
   (.block 0 (.loop (.seq (.reg [⟨(some (.i (.i (.i (.o (.i .h)))))), none, .bin .lss (.s (.o (.i (.i (.o (.i .h)))))) (.c (.int .i64 16)), 0, true⟩] 0)
   (.seq (.cond (.s (.i (.i (.i (.o (.i .h))))))
   .skip
   (.exit 0))
   (.seq (.block 1 (.seq (.reg [⟨(some (.o (.o (.o (.i (.i .h)))))), none, .mov (.s (.o (.i (.i (.o (.i .h)))))), 0, true⟩,
    ⟨(some (.i (.i (.i .h)))), none, .mov (.s (.o (.o (.o (.i (.i .h)))))), 0, true⟩] 0)
   (.reg [⟨(some (.i (.o (.o (.i (.i .h)))))), none, .mov (.s (.i (.i (.i .h)))), 0, false⟩,
    ⟨(some (.o (.i (.o (.i (.i .h)))))), none, .ixA 16 1 (.s (.i (.o (.i .h)))) (.s (.i (.o (.o (.i (.i .h)))))), 0, false⟩,
    ⟨(some (.i (.i (.o (.i (.i .h)))))), none, .load false 1 (.s (.o (.i (.o (.i (.i .h)))))), 0, false⟩,
    ⟨(some (.o (.o (.i (.i (.i .h)))))), none, .mov (.s (.i (.i (.i .h)))), 0, false⟩,
    ⟨(some (.i (.o (.i (.i (.i .h)))))), none, .ixA 16 1 (.s (.o (.i (.i .h)))) (.s (.o (.o (.i (.i (.i .h)))))), 0, false⟩,
    ⟨(some (.o (.i (.i (.i (.i .h)))))), none, .load false 1 (.s (.i (.o (.i (.i (.i .h)))))), 0, false⟩,
    ⟨(some (.i (.i (.i (.i (.i .h)))))), none, .bin .xor (.s (.i (.i (.o (.i (.i .h)))))) (.s (.o (.i (.i (.i (.i .h)))))), 0, false⟩,
    ⟨(some (.o (.o (.o (.o (.o (.o .h))))))), none, .ixA 16 1 (.s (.i (.o (.i .h)))) (.s (.i (.o (.o (.i (.i .h)))))), 0, false⟩,
    ⟨none, none, .store 1 (.s (.o (.o (.o (.o (.o (.o .h))))))) (.s (.i (.i (.i (.i (.i .h)))))), 0, false⟩] 0)))
   (.reg [⟨(some (.i (.o (.o (.o (.o (.o .h))))))), none, .bin .add (.s (.o (.i (.i (.o (.i .h)))))) (.c (.int .i64 1)), 0, true⟩,
    ⟨(some (.o (.i (.i (.o (.i .h)))))), none, .mov (.s (.i (.o (.o (.o (.o (.o .h))))))), 0, true⟩] 0)))))))
   (.seq (.reg [⟨(some (.o (.i (.o (.o (.o (.o .h))))))), none, .slArr 16 1 (.s (.i (.o (.i .h)))) none none, 0, true⟩,
    ⟨(some (.i (.i (.o (.o (.o (.o .h))))))), none, .b2s (.s (.o (.i (.o (.o (.o (.o .h))))))), 0, true⟩,
    ⟨(some (.i (.o (.o .h)))), none, .mov (.s (.i (.i (.o (.o (.o (.o .h))))))), 0, true⟩] 0)
   .ret))))))))))) }

/-- (*halberd/gcm.Cipher).Xor -/
noncomputable def d86 : Go.AE.Fd := { np := 3, res := [], code :=
   (.seq (.reg [⟨(some (.i (.i .h))), none, .mov (.c (.int .u32 2)), 0, true⟩] 0)
   (.block 0 (.loop (.seq (.seq (.reg [⟨(some (.i (.i (.o .h)))), none, .mov (.s (.i .h)), 0, true⟩,
    ⟨(some (.o (.o (.i .h)))), none, .len (.s (.i (.i (.o .h)))), 0, true⟩,
    ⟨(some (.i (.o (.i .h)))), none, .bin .gtr (.s (.o (.o (.i .h)))) (.c (.int .i64 0)), 0, true⟩] 0)
   (.cond (.s (.i (.o (.i .h))))
   .skip
   (.exit 0)))
   (.seq (.block 1 (.seq (.reg [⟨(some (.o (.o (.o (.o .h))))), none, .mov (.s .h), 0, false⟩,
    ⟨(some (.i (.o (.o (.o .h))))), none, .nilc (.s (.o (.o (.o (.o .h))))), 0, false⟩,
    ⟨(some (.o (.i (.o (.o .h))))), none, .lea 0 (.s (.i (.o (.o (.o .h))))), 0, false⟩,
    ⟨(some (.i (.i (.o (.o .h))))), none, .load false 1 (.s (.o (.i (.o (.o .h))))), 0, false⟩,
    ⟨(some (.o (.o (.i (.o .h))))), none, .mov (.s (.o .h)), 0, false⟩,
    ⟨(some (.i (.o (.i (.o .h))))), none, .mov (.s (.i (.i .h))), 0, false⟩,
    ⟨(some (.o (.i (.i (.o .h))))), none, .call (.o (.o (.o (.i (.o (.i .h)))))) [(.s (.o (.o (.i (.o .h))))), (.s (.i (.o (.i (.o .h)))))], 0, false⟩,
    ⟨(some (.i (.i (.i (.o .h))))), none, .call (.o (.i (.o (.o (.o (.i .h)))))) [(.s (.i (.i (.o (.o .h))))), (.s (.o (.i (.i (.o .h)))))], 48, false⟩,
    ⟨(some (.o (.o (.o .h)))), none, .alloc [(.int .u8 0), (.int .u8 0), (.int .u8 0), (.int .u8 0), (.int .u8 0), (.int .u8 0), (.int .u8 0), (.int .u8 0), (.int .u8 0), (.int .u8 0), (.int .u8 0), (.int .u8 0), (.int .u8 0), (.int .u8 0), (.int .u8 0), (.int .u8 0)], 96, false⟩,
    ⟨none, none, .store 16 (.s (.o (.o (.o .h)))) (.s (.i (.i (.i (.o .h))))), 0, false⟩] 97)
   (.seq (.reg [⟨(some (.o (.o (.o (.i .h))))), none, .mov (.s (.i .h)), 0, true⟩,
    ⟨(some (.i (.o (.o (.i .h))))), none, .len (.s (.o (.o (.o (.i .h))))), 0, true⟩,
    ⟨(some (.o (.i (.o (.i .h))))), none, .mm false (.s (.i (.o (.o (.i .h))))) (.c (.int .i64 16)), 0, true⟩,
    ⟨(some (.i (.o (.o .h)))), none, .mov (.s (.o (.i (.o (.i .h))))), 0, true⟩] 0)
   (.seq (.seq (.reg [⟨(some (.i (.i (.o (.i .h))))), none, .mov (.s (.i (.o (.o .h)))), 0, true⟩,
    ⟨(some (.o (.o (.i (.i .h))))), none, .mov (.c (.int .i64 0)), 0, true⟩] 0)
   (.block 2 (.loop (.seq (.reg [⟨(some (.i (.o (.i (.i .h))))), none, .bin .lss (.s (.o (.o (.i (.i .h))))) (.s (.i (.i (.o (.i .h))))), 0, true⟩] 0)
   (.seq (.cond (.s (.i (.o (.i (.i .h)))))
   .skip
   (.exit 2))
   (.seq (.block 3 (.seq (.reg [⟨(some (.o (.i (.i (.i .h))))), none, .mov (.s (.o (.o (.i (.i .h))))), 0, true⟩,
    ⟨(some (.o (.i (.o .h)))), none, .mov (.s (.o (.i (.i (.i .h))))), 0, true⟩] 0)
   (.reg [⟨(some (.i (.i (.i (.i .h))))), none, .mov (.s (.i .h)), 0, false⟩,
    ⟨(some (.o (.o (.o (.o (.o .h)))))), none, .mov (.s (.o (.i (.o .h)))), 0, false⟩,
    ⟨(some (.i (.o (.o (.o (.o .h)))))), none, .ixS 1 (.s (.i (.i (.i (.i .h))))) (.s (.o (.o (.o (.o (.o .h)))))), 0, false⟩,
    ⟨(some (.o (.i (.o (.o (.o .h)))))), none, .load false 1 (.s (.i (.o (.o (.o (.o .h)))))), 0, false⟩,
    ⟨(some (.i (.i (.o (.o (.o .h)))))), none, .mov (.s (.o (.i (.o .h)))), 0, false⟩,
    ⟨(some (.o (.o (.i (.o (.o .h)))))), none, .ixA 16 1 (.s (.o (.o (.o .h)))) (.s (.i (.i (.o (.o (.o .h)))))), 0, false⟩,
    ⟨(some (.i (.o (.i (.o (.o .h)))))), none, .load false 1 (.s (.o (.o (.i (.o (.o .h)))))), 0, false⟩,
    ⟨(some (.o (.i (.i (.o (.o .h)))))), none, .bin .xor (.s (.o (.i (.o (.o (.o .h)))))) (.s (.i (.o (.i (.o (.o .h)))))), 0, false⟩,
    ⟨(some (.i (.i (.i (.o (.o .h)))))), none, .ixS 1 (.s (.i (.i (.i (.i .h))))) (.s (.o (.o (.o (.o (.o .h)))))), 0, false⟩,
    ⟨none, none, .store 1 (.s (.i (.i (.i (.o (.o .h)))))) (.s (.o (.i (.i (.o (.o .h)))))), 0, false⟩] 0)))
   (.reg [⟨(some (.o (.o (.o (.i (.o .h)))))), none, .bin .add (.s (.o (.o (.i (.i .h))))) (.c (.int .i64 1)), 0, true⟩,
    ⟨(some (.o (.o (.i (.i .h))))), none, .mov (.s (.o (.o (.o (.i (.o .h)))))), 0, true⟩] 0)))))))
   (.reg [⟨(some (.i (.o (.o (.i (.o .h)))))), none, .mov (.s (.i .h)), 0, true⟩,
    ⟨(some (.o (.i (.o (.i (.o .h)))))), none, .mov (.s (.i (.o (.o .h)))), 0, true⟩,
    ⟨(some (.i (.i (.o (.i (.o .h)))))), none, .slSl 1 (.s (.i (.o (.o (.i (.o .h)))))) (some (.s (.o (.i (.o (.i (.o .h))))))) none, 0, true⟩,
    ⟨(some (.i .h)), none, .mov (.s (.i (.i (.o (.i (.o .h)))))), 0, true⟩] 0)))))
   (.reg [⟨(some (.o (.i (.i .h)))), none, .mov (.s (.i (.i .h))), 0, true⟩,
    ⟨(some (.i (.i (.i .h)))), none, .bin .add (.s (.o (.i (.i .h)))) (.c (.int .u32 1)), 0, true⟩,
    ⟨(some (.i (.i .h))), none, .mov (.s (.i (.i (.i .h)))), 0, true⟩] 0)))))) }

/-- halberd/wire.number -/
noncomputable def d87 : Go.AE.Fd := { np := 3, res := [.tmp (.i (.i .h)), .tmp (.o (.o (.o .h))), .tmp (.i (.o (.o .h)))], code :=
   (.seq (.reg [⟨(some (.i (.i .h))), none, .mov (.c (.int .i64 0)), 0, true⟩,
    ⟨(some (.o (.o (.o .h)))), none, .mov (.c (.int .i64 0)), 0, true⟩,
    ⟨(some (.i (.o (.o .h)))), none, .mov (.c (.int .i64 0)), 0, true⟩] 0)
   (.seq (.seq (.reg [⟨(some (.o (.o (.i .h)))), none, .mov (.s (.o .h)), 0, true⟩,
    ⟨(some (.i (.o (.i .h)))), none, .bin .lss (.s (.o (.o (.i .h)))) (.c (.int .i64 0)), 0, true⟩,
    ⟨(some (.o (.i (.i .h)))), none, .mov (.s (.i (.o (.i .h)))), 0, true⟩,
    ⟨(some (.i (.i (.i .h)))), (some ((.o (.i (.i .h))), false)), .mov (.s (.o .h)), 0, true⟩,
    ⟨(some (.o (.o (.o (.o .h))))), (some ((.o (.i (.i .h))), false)), .mov (.s .h), 0, true⟩,
    ⟨(some (.i (.o (.o (.o .h))))), (some ((.o (.i (.i .h))), false)), .lenS (.s (.o (.o (.o (.o .h))))), 0, true⟩,
    ⟨(some (.o (.i (.o (.o .h))))), (some ((.o (.i (.i .h))), false)), .bin .gtr (.s (.i (.i (.i .h)))) (.s (.i (.o (.o (.o .h))))), 0, true⟩,
    ⟨(some (.i (.i (.o (.o .h))))), none, .pick (.s (.o (.i (.i .h)))) (.c (.bool true)) (.s (.o (.i (.o (.o .h))))), 0, true⟩,
    ⟨(some (.o (.o (.i (.o .h))))), none, .mov (.s (.i (.i (.o (.o .h))))), 0, true⟩,
    ⟨(some (.i (.o (.i (.o .h))))), (some ((.o (.o (.i (.o .h)))), false)), .mov (.s .h), 0, true⟩,
    ⟨(some (.o (.i (.i (.o .h))))), (some ((.o (.o (.i (.o .h)))), false)), .lenS (.s (.i (.o (.i (.o .h))))), 0, true⟩,
    ⟨(some (.i (.i (.i (.o .h))))), (some ((.o (.o (.i (.o .h)))), false)), .mov (.s (.o .h)), 0, true⟩,
    ⟨(some (.o (.o (.o (.i .h))))), (some ((.o (.o (.i (.o .h)))), false)), .bin .sub (.s (.o (.i (.i (.o .h))))) (.s (.i (.i (.i (.o .h))))), 0, true⟩,
    ⟨(some (.i (.o (.o (.i .h))))), (some ((.o (.o (.i (.o .h)))), false)), .mov (.s (.i .h)), 0, true⟩,
    ⟨(some (.o (.i (.o (.i .h))))), (some ((.o (.o (.i (.o .h)))), false)), .bin .lss (.s (.o (.o (.o (.i .h))))) (.s (.i (.o (.o (.i .h))))), 0, true⟩,
    ⟨(some (.i (.i (.o (.i .h))))), none, .pick (.s (.o (.o (.i (.o .h))))) (.c (.bool true)) (.s (.o (.i (.o (.i .h))))), 0, true⟩] 0)
   (.cond (.s (.i (.i (.o (.i .h)))))
   (.seq (.reg [⟨(some (.i (.i .h))), none, .mov (.c (.int .i64 0)), 0, true⟩,
    ⟨(some (.o (.o (.o .h)))), none, .mov (.c (.int .i64 0)), 0, true⟩,
    ⟨(some (.i (.o (.o .h)))), none, .mov (.c (.int .i64 100)), 0, true⟩] 0)
   .ret)
   .skip))
   (.seq (.reg [⟨(some (.o (.i (.o .h)))), none, .mov (.c (.int .i64 0)), 0, true⟩] 0)
   (.seq (.seq (.reg [⟨(some (.o (.o (.i (.i .h))))), none, .mov (.s (.i .h)), 0, true⟩,
    ⟨(some (.i (.o (.i (.i .h))))), none, .mov (.c (.int .i64 0)), 0, true⟩] 0)
   (.block 0 (.loop (.seq (.reg [⟨(some (.o (.i (.i (.i .h))))), none, .bin .lss (.s (.i (.o (.i (.i .h))))) (.s (.o (.o (.i (.i .h))))), 0, true⟩] 0)
   (.seq (.cond (.s (.o (.i (.i (.i .h)))))
   .skip
   (.exit 0))
   (.seq (.block 1 (.seq (.reg [⟨(some (.i (.i (.i (.i .h))))), none, .mov (.s (.i (.o (.i (.i .h))))), 0, true⟩,
    ⟨(some (.i (.i (.o .h)))), none, .mov (.s (.i (.i (.i (.i .h))))), 0, true⟩] 0)
   (.reg [⟨(some (.o (.o (.o (.o (.o .h)))))), none, .mov (.s (.o (.i (.o .h)))), 0, true⟩,
    ⟨(some (.i (.o (.o (.o (.o .h)))))), none, .bin .shl (.s (.o (.o (.o (.o (.o .h)))))) (.c (.int .u64 8)), 0, true⟩,
    ⟨(some (.o (.i (.o (.o (.o .h)))))), none, .mov (.s .h), 0, true⟩,
    ⟨(some (.i (.i (.o (.o (.o .h)))))), none, .mov (.s (.o .h)), 0, true⟩,
    ⟨(some (.o (.o (.i (.o (.o .h)))))), none, .mov (.s (.i (.i (.o .h)))), 0, true⟩,
    ⟨(some (.i (.o (.i (.o (.o .h)))))), none, .bin .add (.s (.i (.i (.o (.o (.o .h)))))) (.s (.o (.o (.i (.o (.o .h)))))), 0, true⟩,
    ⟨(some (.o (.i (.i (.o (.o .h)))))), none, .ixStr (.s (.o (.i (.o (.o (.o .h)))))) (.s (.i (.o (.i (.o (.o .h)))))), 0, true⟩,
    ⟨(some (.i (.i (.i (.o (.o .h)))))), none, .conv .i64 (.s (.o (.i (.i (.o (.o .h)))))), 0, true⟩,
    ⟨(some (.o (.o (.o (.i (.o .h)))))), none, .bin .or (.s (.i (.o (.o (.o (.o .h)))))) (.s (.i (.i (.i (.o (.o .h)))))), 0, true⟩,
    ⟨(some (.o (.i (.o .h)))), none, .mov (.s (.o (.o (.o (.i (.o .h)))))), 0, true⟩] 0)))
   (.reg [⟨(some (.i (.o (.o (.i (.o .h)))))), none, .bin .add (.s (.i (.o (.i (.i .h))))) (.c (.int .i64 1)), 0, true⟩,
    ⟨(some (.i (.o (.i (.i .h))))), none, .mov (.s (.i (.o (.o (.i (.o .h)))))), 0, true⟩] 0)))))))
   (.seq (.reg [⟨(some (.o (.i (.o (.i (.o .h)))))), none, .mov (.s (.o (.i (.o .h)))), 0, true⟩,
    ⟨(some (.i (.i (.o (.i (.o .h)))))), none, .mov (.s (.o .h)), 0, true⟩,
    ⟨(some (.o (.o (.i (.i (.o .h)))))), none, .mov (.s (.i .h)), 0, true⟩,
    ⟨(some (.i (.o (.i (.i (.o .h)))))), none, .bin .add (.s (.i (.i (.o (.i (.o .h)))))) (.s (.o (.o (.i (.i (.o .h)))))), 0, true⟩,
    ⟨(some (.i (.i .h))), none, .mov (.s (.o (.i (.o (.i (.o .h)))))), 0, true⟩,
    ⟨(some (.o (.o (.o .h)))), none, .mov (.s (.i (.o (.i (.i (.o .h)))))), 0, true⟩,
    ⟨(some (.i (.o (.o .h)))), none, .mov (.c (.int .i64 0)), 0, true⟩] 0)
   .ret))))) }

/-- halberd/wire.Put -/
noncomputable def d88 : Go.AE.Fd := { np := 2, res := [.tmp (.i (.o .h)), .tmp (.o (.i .h))], code :=
   (.seq (.reg [⟨(some (.i (.o .h))), none, .mov (.c (.str [])), 0, true⟩,
    ⟨(some (.o (.i .h))), none, .mov (.c (.int .i64 0)), 0, true⟩] 0)
   (.seq (.seq (.reg [⟨(some (.i (.i .h))), none, .mov (.s (.o .h)), 0, true⟩,
    ⟨(some (.o (.o (.o .h)))), none, .bin .lss (.s (.i (.i .h))) (.c (.int .i64 1)), 0, true⟩,
    ⟨(some (.i (.o (.o .h)))), none, .mov (.s (.o (.o (.o .h)))), 0, true⟩,
    ⟨(some (.o (.i (.o .h)))), (some ((.i (.o (.o .h))), false)), .mov (.s (.o .h)), 0, true⟩,
    ⟨(some (.i (.i (.o .h)))), (some ((.i (.o (.o .h))), false)), .bin .gtr (.s (.o (.i (.o .h)))) (.c (.int .i64 4)), 0, true⟩,
    ⟨(some (.o (.o (.i .h)))), none, .pick (.s (.i (.o (.o .h)))) (.c (.bool true)) (.s (.i (.i (.o .h)))), 0, true⟩,
    ⟨(some (.i (.o (.i .h)))), none, .mov (.s (.o (.o (.i .h)))), 0, true⟩,
    ⟨(some (.o (.i (.i .h)))), (some ((.i (.o (.i .h))), false)), .mov (.s .h), 0, true⟩,
    ⟨(some (.i (.i (.i .h)))), (some ((.i (.o (.i .h))), false)), .bin .lss (.s (.o (.i (.i .h)))) (.c (.int .i64 0)), 0, true⟩,
    ⟨(some (.o (.o (.o (.o .h))))), none, .pick (.s (.i (.o (.i .h)))) (.c (.bool true)) (.s (.i (.i (.i .h)))), 0, true⟩,
    ⟨(some (.i (.o (.o (.o .h))))), none, .mov (.s (.o (.o (.o (.o .h))))), 0, true⟩,
    ⟨(some (.o (.i (.o (.o .h))))), (some ((.i (.o (.o (.o .h)))), false)), .mov (.s .h), 0, true⟩,
    ⟨(some (.i (.i (.o (.o .h))))), (some ((.i (.o (.o (.o .h)))), false)), .mov (.s (.o .h)), 0, true⟩,
    ⟨(some (.o (.o (.i (.o .h))))), (some ((.i (.o (.o (.o .h)))), false)), .bin .mul (.c (.int .i64 8)) (.s (.i (.i (.o (.o .h))))), 0, true⟩,
    ⟨(some (.i (.o (.i (.o .h))))), (some ((.i (.o (.o (.o .h)))), false)), .bin .shr (.s (.o (.i (.o (.o .h))))) (.s (.o (.o (.i (.o .h))))), 0, true⟩,
    ⟨(some (.o (.i (.i (.o .h))))), (some ((.i (.o (.o (.o .h)))), false)), .bin .neq (.s (.i (.o (.i (.o .h))))) (.c (.int .i64 0)), 0, true⟩,
    ⟨(some (.i (.i (.i (.o .h))))), none, .pick (.s (.i (.o (.o (.o .h))))) (.c (.bool true)) (.s (.o (.i (.i (.o .h))))), 0, true⟩] 0)
   (.cond (.s (.i (.i (.i (.o .h)))))
   (.seq (.reg [⟨(some (.i (.o .h))), none, .mov (.c (.str [])), 0, true⟩,
    ⟨(some (.o (.i .h))), none, .mov (.c (.int .i64 101)), 0, true⟩] 0)
   .ret)
   .skip))
   (.seq (.reg [⟨(some (.o (.o (.o (.i .h))))), none, .mov (.s .h), 0, true⟩,
    ⟨(some (.i (.o (.o (.i .h))))), none, .mov (.s (.o .h)), 0, true⟩,
    ⟨(some (.o (.i (.o (.i .h))))), none, .call (.o (.i (.o (.i (.i (.o .h)))))) [(.s (.o (.o (.o (.i .h))))), (.s (.i (.o (.o (.i .h)))))], 0, true⟩,
    ⟨(some (.i (.o .h))), none, .mov (.s (.o (.i (.o (.i .h))))), 0, true⟩,
    ⟨(some (.o (.i .h))), none, .mov (.c (.int .i64 0)), 0, true⟩] 0)
   .ret))) }

/-- halberd/wire.Bytes -/
noncomputable def d89 : Go.AE.Fd := { np := 2, res := [.tmp (.i (.o .h))], code :=
   (.seq (.reg [⟨(some (.i (.o .h))), none, .mov (.c (.str [])), 0, true⟩] 0)
   (.seq (.reg [⟨(some (.o (.i .h))), none, .mov (.c .nils), 0, true⟩] 0)
   (.seq (.seq (.reg [⟨(some (.i (.i .h))), none, .mov (.s (.o .h)), 0, true⟩] 0)
   (.block 0 (.seq (.block 4 (.seq (.block 3 (.seq (.block 2 (.seq (.block 1 (.seq (.seq (.seq (.reg [⟨(some (.i (.o (.o .h)))), none, .bin .eql (.s (.i (.i .h))) (.c (.int .i64 4)), 0, true⟩,
    ⟨(some (.o (.o (.o .h)))), none, .mov (.s (.i (.o (.o .h)))), 0, true⟩] 0)
   (.cond (.s (.o (.o (.o .h))))
   (.exit 1)
   .skip))
   (.seq (.seq (.reg [⟨(some (.i (.i (.o .h)))), none, .bin .eql (.s (.i (.i .h))) (.c (.int .i64 3)), 0, true⟩,
    ⟨(some (.o (.i (.o .h)))), none, .mov (.s (.i (.i (.o .h)))), 0, true⟩] 0)
   (.cond (.s (.o (.i (.o .h))))
   (.exit 2)
   .skip))
   (.seq (.reg [⟨(some (.i (.o (.i .h)))), none, .bin .eql (.s (.i (.i .h))) (.c (.int .i64 2)), 0, true⟩,
    ⟨(some (.o (.o (.i .h)))), none, .mov (.s (.i (.o (.i .h)))), 0, true⟩] 0)
   (.cond (.s (.o (.o (.i .h))))
   (.exit 3)
   .skip))))
   (.exit 4)))
   (.reg [⟨(some (.o (.i (.i .h)))), none, .mov (.s (.o (.i .h))), 0, true⟩,
    ⟨(some (.i (.i (.i .h)))), none, .mov (.s .h), 0, true⟩,
    ⟨(some (.o (.o (.o (.o .h))))), none, .bin .shr (.s (.i (.i (.i .h)))) (.c (.int .u64 24)), 0, true⟩,
    ⟨(some (.i (.o (.o (.o .h))))), none, .conv .u8 (.s (.o (.o (.o (.o .h))))), 0, true⟩,
    ⟨(some (.o (.i (.o (.o .h))))), none, .bsl 1 1 [(.int .u8 0)] [(0, 1, (.s (.i (.o (.o (.o .h))))))], 0, true⟩,
    ⟨(some (.i (.i (.o (.o .h))))), none, .app 1 1 (.s (.o (.i (.i .h)))) (.s (.o (.i (.o (.o .h))))), 0, true⟩,
    ⟨(some (.o (.i .h))), none, .mov (.s (.i (.i (.o (.o .h))))), 0, true⟩] 0)))
   (.reg [⟨(some (.o (.o (.i (.o .h))))), none, .mov (.s (.o (.i .h))), 0, true⟩,
    ⟨(some (.i (.o (.i (.o .h))))), none, .mov (.s .h), 0, true⟩,
    ⟨(some (.o (.i (.i (.o .h))))), none, .bin .shr (.s (.i (.o (.i (.o .h))))) (.c (.int .u64 16)), 0, true⟩,
    ⟨(some (.i (.i (.i (.o .h))))), none, .conv .u8 (.s (.o (.i (.i (.o .h))))), 0, true⟩,
    ⟨(some (.o (.o (.o (.i .h))))), none, .bsl 1 1 [(.int .u8 0)] [(0, 1, (.s (.i (.i (.i (.o .h))))))], 0, true⟩,
    ⟨(some (.i (.o (.o (.i .h))))), none, .app 1 1 (.s (.o (.o (.i (.o .h))))) (.s (.o (.o (.o (.i .h))))), 0, true⟩,
    ⟨(some (.o (.i .h))), none, .mov (.s (.i (.o (.o (.i .h))))), 0, true⟩] 0)))
   (.reg [⟨(some (.o (.i (.o (.i .h))))), none, .mov (.s (.o (.i .h))), 0, true⟩,
    ⟨(some (.i (.i (.o (.i .h))))), none, .mov (.s .h), 0, true⟩,
    ⟨(some (.o (.o (.i (.i .h))))), none, .bin .shr (.s (.i (.i (.o (.i .h))))) (.c (.int .u64 8)), 0, true⟩,
    ⟨(some (.i (.o (.i (.i .h))))), none, .conv .u8 (.s (.o (.o (.i (.i .h))))), 0, true⟩,
    ⟨(some (.o (.i (.i (.i .h))))), none, .bsl 1 1 [(.int .u8 0)] [(0, 1, (.s (.i (.o (.i (.i .h))))))], 0, true⟩,
    ⟨(some (.i (.i (.i (.i .h))))), none, .app 1 1 (.s (.o (.i (.o (.i .h))))) (.s (.o (.i (.i (.i .h))))), 0, true⟩,
    ⟨(some (.o (.i .h))), none, .mov (.s (.i (.i (.i (.i .h))))), 0, true⟩] 0)))
   (.seq (.reg [⟨(some (.o (.o (.o (.o (.o .h)))))), none, .mov (.s (.o (.i .h))), 0, true⟩,
    ⟨(some (.i (.o (.o (.o (.o .h)))))), none, .mov (.s .h), 0, true⟩,
    ⟨(some (.o (.i (.o (.o (.o .h)))))), none, .conv .u8 (.s (.i (.o (.o (.o (.o .h)))))), 0, true⟩,
    ⟨(some (.i (.i (.o (.o (.o .h)))))), none, .bsl 1 1 [(.int .u8 0)] [(0, 1, (.s (.o (.i (.o (.o (.o .h)))))))], 0, true⟩,
    ⟨(some (.o (.o (.i (.o (.o .h)))))), none, .app 1 1 (.s (.o (.o (.o (.o (.o .h)))))) (.s (.i (.i (.o (.o (.o .h)))))), 0, true⟩,
    ⟨(some (.o (.i .h))), none, .mov (.s (.o (.o (.i (.o (.o .h)))))), 0, true⟩] 0)
   (.exit 0)))))
   (.seq (.reg [⟨(some (.i (.o (.i (.o (.o .h)))))), none, .mov (.s (.o (.i .h))), 0, true⟩,
    ⟨(some (.o (.i (.i (.o (.o .h)))))), none, .b2s (.s (.i (.o (.i (.o (.o .h)))))), 0, true⟩,
    ⟨(some (.i (.o .h))), none, .mov (.s (.o (.i (.i (.o (.o .h)))))), 0, true⟩] 0)
   .ret)))) }

/-- halberd/aes.New -/
noncomputable def d96 : Go.AE.Fd := { np := 1, res := [.tmp (.i .h), .tmp (.o (.o .h))], code :=
   (.seq (.reg [⟨(some (.i .h)), none, .mov (.c .nilp), 0, true⟩,
    ⟨(some (.o (.o .h))), none, .mov (.c (.bool false)), 0, true⟩] 0)
   (.seq (.seq (.reg [⟨(some (.o (.i (.i .h)))), none, .mov (.s .h), 0, true⟩,
    ⟨(some (.i (.i (.i .h)))), none, .lenS (.s (.o (.i (.i .h)))), 0, true⟩,
    ⟨(some (.o (.o (.o (.o .h))))), none, .bin .neq (.s (.i (.i (.i .h)))) (.c (.int .i64 16)), 0, true⟩,
    ⟨(some (.i (.o (.o (.o .h))))), none, .mov (.s (.o (.o (.o (.o .h))))), 0, true⟩,
    ⟨(some (.o (.i (.o (.o .h))))), (some ((.i (.o (.o (.o .h)))), true)), .mov (.s .h), 0, true⟩,
    ⟨(some (.i (.i (.o (.o .h))))), (some ((.i (.o (.o (.o .h)))), true)), .lenS (.s (.o (.i (.o (.o .h))))), 0, true⟩,
    ⟨(some (.o (.o (.i (.o .h))))), (some ((.i (.o (.o (.o .h)))), true)), .bin .neq (.s (.i (.i (.o (.o .h))))) (.c (.int .i64 32)), 0, true⟩,
    ⟨(some (.i (.o (.i (.o .h))))), none, .pick (.s (.i (.o (.o (.o .h))))) (.s (.o (.o (.i (.o .h))))) (.c (.bool false)), 0, true⟩] 0)
   (.cond (.s (.i (.o (.i (.o .h)))))
   (.seq (.reg [⟨(some (.i .h)), none, .mov (.c .nilp), 0, true⟩,
    ⟨(some (.o (.o .h))), none, .mov (.c (.bool false)), 0, true⟩] 0)
   .ret)
   .skip))
   (.seq (.reg [⟨(some (.o (.i (.i (.o .h))))), none, .call (.o (.o (.i (.i (.o (.i .h)))))) [], 0, true⟩,
    ⟨(some (.i (.i (.i (.o .h))))), none, .build [(.int .u8 0), (.int .u8 0), (.int .u8 0), (.int .u8 0), (.int .u8 0), (.int .u8 0), (.int .u8 0), (.int .u8 0), (.int .u8 0), (.int .u8 0), (.int .u8 0), (.int .u8 0), (.int .u8 0), (.int .u8 0), (.int .u8 0), (.int .u8 0), (.int .u8 0), (.int .u8 0), (.int .u8 0), (.int .u8 0), (.int .u8 0), (.int .u8 0), (.int .u8 0), (.int .u8 0), (.int .u8 0), (.int .u8 0), (.int .u8 0), (.int .u8 0), (.int .u8 0), (.int .u8 0), (.int .u8 0), (.int .u8 0), (.int .u8 0), (.int .u8 0), (.int .u8 0), (.int .u8 0), (.int .u8 0), (.int .u8 0), (.int .u8 0), (.int .u8 0), (.int .u8 0), (.int .u8 0), (.int .u8 0), (.int .u8 0), (.int .u8 0), (.int .u8 0), (.int .u8 0), (.int .u8 0), (.int .u8 0), (.int .u8 0), (.int .u8 0), (.int .u8 0), (.int .u8 0), (.int .u8 0), (.int .u8 0), (.int .u8 0), (.int .u8 0), (.int .u8 0), (.int .u8 0), (.int .u8 0), (.int .u8 0), (.int .u8 0), (.int .u8 0), (.int .u8 0), (.int .u8 0), (.int .u8 0), (.int .u8 0), (.int .u8 0), (.int .u8 0), (.int .u8 0), (.int .u8 0), (.int .u8 0), (.int .u8 0), (.int .u8 0), (.int .u8 0), (.int .u8 0), (.int .u8 0), (.int .u8 0), (.int .u8 0), (.int .u8 0), (.int .u8 0), (.int .u8 0), (.int .u8 0), (.int .u8 0), (.int .u8 0), (.int .u8 0), (.int .u8 0), (.int .u8 0), (.int .u8 0), (.int .u8 0), (.int .u8 0), (.int .u8 0), (.int .u8 0), (.int .u8 0), (.int .u8 0), (.int .u8 0), (.int .u8 0), (.int .u8 0), (.int .u8 0), (.int .u8 0), (.int .u8 0), (.int .u8 0), (.int .u8 0), (.int .u8 0), (.int .u8 0), (.int .u8 0), (.int .u8 0), (.int .u8 0), (.int .u8 0), (.int .u8 0), (.int .u8 0), (.int .u8 0), (.int .u8 0), (.int .u8 0), (.int .u8 0), (.int .u8 0), (.int .u8 0), (.int .u8 0), (.int .u8 0), (.int .u8 0), (.int .u8 0), (.int .u8 0), (.int .u8 0), (.int .u8 0), (.int .u8 0), (.int .u8 0), (.int .u8 0), (.int .u8 0), (.int .u8 0), (.int .u8 0), (.int .u8 0), (.int .u8 0), (.int .u8 0), (.int .u8 0), (.int .u8 0), (.int .u8 0), (.int .u8 0), (.int .u8 0), (.int .u8 0), (.int .u8 0), (.int .u8 0), (.int .u8 0), (.int .u8 0), (.int .u8 0), (.int .u8 0), (.int .u8 0), (.int .u8 0), (.int .u8 0), (.int .u8 0), (.int .u8 0), (.int .u8 0), (.int .u8 0), (.int .u8 0), (.int .u8 0), (.int .u8 0), (.int .u8 0), (.int .u8 0), (.int .u8 0), (.int .u8 0), (.int .u8 0), (.int .u8 0), (.int .u8 0), (.int .u8 0), (.int .u8 0), (.int .u8 0), (.int .u8 0), (.int .u8 0), (.int .u8 0), (.int .u8 0), (.int .u8 0), (.int .u8 0), (.int .u8 0), (.int .u8 0), (.int .u8 0), (.int .u8 0), (.int .u8 0), (.int .u8 0), (.int .u8 0), (.int .u8 0), (.int .u8 0), (.int .u8 0), (.int .u8 0), (.int .u8 0), (.int .u8 0), (.int .u8 0), (.int .u8 0), (.int .u8 0), (.int .u8 0), (.int .u8 0), (.int .u8 0), (.int .u8 0), (.int .u8 0), (.int .u8 0), (.int .u8 0), (.int .u8 0), (.int .u8 0), (.int .u8 0), (.int .u8 0), (.int .u8 0), (.int .u8 0), (.int .u8 0), (.int .u8 0), (.int .u8 0), (.int .u8 0), (.int .u8 0), (.int .u8 0), (.int .u8 0), (.int .u8 0), (.int .u8 0), (.int .u8 0), (.int .u8 0), (.int .u8 0), (.int .u8 0), (.int .u8 0), (.int .u8 0), (.int .u8 0), (.int .u8 0), (.int .u8 0), (.int .u8 0), (.int .u8 0), (.int .u8 0), (.int .u8 0), (.int .u8 0), (.int .u8 0), (.int .u8 0), (.int .u8 0), (.int .u8 0), (.int .u8 0), (.int .u8 0), (.int .u8 0), (.int .u8 0), (.int .u8 0), (.int .u8 0), (.int .u8 0), (.int .u8 0), (.int .u8 0), (.int .u8 0), (.int .u8 0), (.int .u8 0), (.int .u8 0), (.int .u8 0), (.int .u8 0), (.int .u8 0), (.int .u8 0), (.int .u8 0), (.int .u8 0), (.int .u8 0), (.int .u8 0), (.int .u8 0), (.int .u8 0), (.int .u8 0), (.int .u8 0), (.int .u8 0), (.int .u8 0), (.int .u8 0), (.int .u8 0), .nils] [(0, 256, (.s (.o (.i (.i (.o .h))))))], 0, true⟩,
    ⟨(some (.o (.o (.o (.i .h))))), none, .box (.s (.i (.i (.i (.o .h))))), 0, true⟩,
    ⟨(some (.i (.o .h))), none, .mov (.s (.o (.o (.o (.i .h))))), 0, true⟩] 0)
   (.seq (.reg [⟨(some (.i (.o (.o (.i .h))))), none, .mov (.s .h), 0, true⟩,
    ⟨(some (.o (.i (.o (.i .h))))), none, .lenS (.s (.i (.o (.o (.i .h))))), 0, true⟩,
    ⟨(some (.i (.i (.o (.i .h))))), none, .bin .quo (.s (.o (.i (.o (.i .h))))) (.c (.int .i64 4)), 0, true⟩,
    ⟨(some (.o (.i .h))), none, .mov (.s (.i (.i (.o (.i .h))))), 0, true⟩] 0)
   (.seq (.reg [⟨(some (.o (.o (.i (.i .h))))), none, .mov (.s (.o (.i .h))), 0, true⟩,
    ⟨(some (.i (.o (.i (.i .h))))), none, .bin .add (.s (.o (.o (.i (.i .h))))) (.c (.int .i64 7)), 0, true⟩,
    ⟨(some (.o (.i (.i (.i .h))))), none, .bin .mul (.c (.int .i64 4)) (.s (.i (.o (.i (.i .h))))), 0, true⟩,
    ⟨(some (.i (.i (.i (.i .h))))), none, .mks 4 4 [(.int .u8 0), (.int .u8 0), (.int .u8 0), (.int .u8 0)] (.s (.o (.i (.i (.i .h))))) (.s (.o (.i (.i (.i .h))))), 0, true⟩,
    ⟨(some (.i (.i .h))), none, .mov (.s (.i (.i (.i (.i .h))))), 0, true⟩] 0)
   (.seq (.reg [⟨(some (.o (.o (.o .h)))), none, .mov (.c (.int .u8 1)), 0, true⟩] 0)
   (.seq (.seq (.reg [⟨(some (.o (.o (.o (.o (.o .h)))))), none, .mov (.s (.i (.i .h))), 0, true⟩,
    ⟨(some (.i (.o (.o (.o (.o .h)))))), none, .len (.s (.o (.o (.o (.o (.o .h)))))), 0, true⟩,
    ⟨(some (.o (.i (.o (.o (.o .h)))))), none, .mov (.c (.int .i64 0)), 0, true⟩] 0)
   (.block 0 (.loop (.seq (.reg [⟨(some (.i (.i (.o (.o (.o .h)))))), none, .bin .lss (.s (.o (.i (.o (.o (.o .h)))))) (.s (.i (.o (.o (.o (.o .h)))))), 0, true⟩] 0)
   (.seq (.cond (.s (.i (.i (.o (.o (.o .h))))))
   .skip
   (.exit 0))
   (.seq (.block 1 (.seq (.reg [⟨(some (.o (.o (.i (.o (.o .h)))))), none, .mov (.s (.o (.i (.o (.o (.o .h)))))), 0, true⟩,
    ⟨(some (.i (.o (.o .h)))), none, .mov (.s (.o (.o (.i (.o (.o .h)))))), 0, true⟩] 0)
   (.seq (.seq (.reg [⟨(some (.i (.o (.i (.o (.o .h)))))), none, .mov (.s (.i (.o (.o .h)))), 0, true⟩,
    ⟨(some (.o (.i (.i (.o (.o .h)))))), none, .mov (.s (.o (.i .h))), 0, true⟩,
    ⟨(some (.i (.i (.i (.o (.o .h)))))), none, .bin .lss (.s (.i (.o (.i (.o (.o .h)))))) (.s (.o (.i (.i (.o (.o .h)))))), 0, true⟩] 0)
   (.cond (.s (.i (.i (.i (.o (.o .h))))))
   (.seq (.reg [⟨(some (.o (.o (.o (.i (.o .h)))))), none, .mov (.s (.i (.i .h))), 0, false⟩,
    ⟨(some (.i (.o (.o (.i (.o .h)))))), none, .mov (.s (.i (.o (.o .h)))), 0, false⟩,
    ⟨(some (.o (.i (.o (.i (.o .h)))))), none, .ixS 4 (.s (.o (.o (.o (.i (.o .h)))))) (.s (.i (.o (.o (.i (.o .h)))))), 0, false⟩,
    ⟨(some (.i (.i (.o (.i (.o .h)))))), none, .slArr 4 1 (.s (.o (.i (.o (.i (.o .h)))))) none none, 0, false⟩,
    ⟨(some (.o (.o (.i (.i (.o .h)))))), none, .mov (.s .h), 0, false⟩,
    ⟨(some (.i (.o (.i (.i (.o .h)))))), none, .mov (.s (.i (.o (.o .h)))), 0, false⟩,
    ⟨(some (.o (.i (.i (.i (.o .h)))))), none, .bin .mul (.c (.int .i64 4)) (.s (.i (.o (.i (.i (.o .h)))))), 0, false⟩,
    ⟨(some (.i (.i (.i (.i (.o .h)))))), none, .slStr (.s (.o (.o (.i (.i (.o .h)))))) (some (.s (.o (.i (.i (.i (.o .h))))))) none, 0, false⟩,
    ⟨(some (.o (.o (.o (.o (.i .h)))))), none, .cpy 1 (.s (.i (.i (.o (.i (.o .h)))))) (.s (.i (.i (.i (.i (.o .h)))))), 0, false⟩] 0)
   (.exit 1))
   .skip))
   (.seq (.reg [⟨(some (.i (.o (.o (.o (.i .h)))))), none, .mov (.s (.i (.i .h))), 0, true⟩,
    ⟨(some (.o (.i (.o (.o (.i .h)))))), none, .mov (.s (.i (.o (.o .h)))), 0, true⟩,
    ⟨(some (.i (.i (.o (.o (.i .h)))))), none, .bin .sub (.s (.o (.i (.o (.o (.i .h)))))) (.c (.int .i64 1)), 0, true⟩,
    ⟨(some (.o (.o (.i (.o (.i .h)))))), none, .ixS 4 (.s (.i (.o (.o (.o (.i .h)))))) (.s (.i (.i (.o (.o (.i .h)))))), 0, true⟩,
    ⟨(some (.i (.o (.i (.o (.i .h)))))), none, .load true 4 (.s (.o (.o (.i (.o (.i .h)))))), 0, true⟩,
    ⟨(some (.o (.i (.o .h)))), none, .alloc [(.int .u8 0), (.int .u8 0), (.int .u8 0), (.int .u8 0)], 0, true⟩,
    ⟨none, none, .store 4 (.s (.o (.i (.o .h)))) (.s (.i (.o (.i (.o (.i .h)))))), 0, true⟩] 0)
   (.seq (.seq (.reg [⟨(some (.o (.i (.i (.o (.i .h)))))), none, .mov (.s (.i (.o (.o .h)))), 0, true⟩,
    ⟨(some (.i (.i (.i (.o (.i .h)))))), none, .mov (.s (.o (.i .h))), 0, true⟩,
    ⟨(some (.o (.o (.o (.i (.i .h)))))), none, .bin .rem (.s (.o (.i (.i (.o (.i .h)))))) (.s (.i (.i (.i (.o (.i .h)))))), 0, true⟩,
    ⟨(some (.i (.o (.o (.i (.i .h)))))), none, .bin .eql (.s (.o (.o (.o (.i (.i .h)))))) (.c (.int .i64 0)), 0, true⟩] 0)
   (.cond (.s (.i (.o (.o (.i (.i .h))))))
   (.seq (.reg [⟨(some (.o (.i (.o (.i (.i .h)))))), none, .mov (.s (.i (.o .h))), 0, false⟩,
    ⟨(some (.i (.i (.o (.i (.i .h)))))), none, .ixA 4 1 (.s (.o (.i (.o .h)))) (.c (.int .i64 1)), 0, false⟩,
    ⟨(some (.o (.o (.i (.i (.i .h)))))), none, .load false 1 (.s (.i (.i (.o (.i (.i .h)))))), 0, false⟩,
    ⟨(some (.i (.o (.i (.i (.i .h)))))), none, .nilc (.s (.o (.i (.o (.i (.i .h)))))), 0, false⟩,
    ⟨(some (.o (.i (.i (.i (.i .h)))))), none, .lea 0 (.s (.i (.o (.i (.i (.i .h)))))), 0, false⟩,
    ⟨(some (.i (.i (.i (.i (.i .h)))))), none, .ixA 256 1 (.s (.o (.i (.i (.i (.i .h)))))) (.s (.o (.o (.i (.i (.i .h)))))), 0, false⟩,
    ⟨(some (.o (.o (.o (.o (.o (.o .h))))))), none, .load false 1 (.s (.i (.i (.i (.i (.i .h)))))), 0, false⟩,
    ⟨(some (.i (.o (.o (.o (.o (.o .h))))))), none, .mov (.s (.o (.o (.o .h)))), 0, false⟩,
    ⟨(some (.o (.i (.o (.o (.o (.o .h))))))), none, .bin .xor (.s (.o (.o (.o (.o (.o (.o .h))))))) (.s (.i (.o (.o (.o (.o (.o .h))))))), 0, false⟩,
    ⟨(some (.i (.i (.o (.o (.o (.o .h))))))), none, .mov (.s (.i (.o .h))), 0, false⟩,
    ⟨(some (.o (.o (.i (.o (.o (.o .h))))))), none, .ixA 4 1 (.s (.o (.i (.o .h)))) (.c (.int .i64 2)), 0, false⟩,
    ⟨(some (.i (.o (.i (.o (.o (.o .h))))))), none, .load false 1 (.s (.o (.o (.i (.o (.o (.o .h))))))), 0, false⟩,
    ⟨(some (.o (.i (.i (.o (.o (.o .h))))))), none, .nilc (.s (.i (.i (.o (.o (.o (.o .h))))))), 0, false⟩,
    ⟨(some (.i (.i (.i (.o (.o (.o .h))))))), none, .lea 0 (.s (.o (.i (.i (.o (.o (.o .h))))))), 0, false⟩,
    ⟨(some (.o (.o (.o (.i (.o (.o .h))))))), none, .ixA 256 1 (.s (.i (.i (.i (.o (.o (.o .h))))))) (.s (.i (.o (.i (.o (.o (.o .h))))))), 0, false⟩,
    ⟨(some (.i (.o (.o (.i (.o (.o .h))))))), none, .load false 1 (.s (.o (.o (.o (.i (.o (.o .h))))))), 0, false⟩,
    ⟨(some (.o (.i (.o (.i (.o (.o .h))))))), none, .mov (.s (.i (.o .h))), 0, false⟩,
    ⟨(some (.i (.i (.o (.i (.o (.o .h))))))), none, .ixA 4 1 (.s (.o (.i (.o .h)))) (.c (.int .i64 3)), 0, false⟩,
    ⟨(some (.o (.o (.i (.i (.o (.o .h))))))), none, .load false 1 (.s (.i (.i (.o (.i (.o (.o .h))))))), 0, false⟩,
    ⟨(some (.i (.o (.i (.i (.o (.o .h))))))), none, .nilc (.s (.o (.i (.o (.i (.o (.o .h))))))), 0, false⟩,
    ⟨(some (.o (.i (.i (.i (.o (.o .h))))))), none, .lea 0 (.s (.i (.o (.i (.i (.o (.o .h))))))), 0, false⟩,
    ⟨(some (.i (.i (.i (.i (.o (.o .h))))))), none, .ixA 256 1 (.s (.o (.i (.i (.i (.o (.o .h))))))) (.s (.o (.o (.i (.i (.o (.o .h))))))), 0, false⟩,
    ⟨(some (.o (.o (.o (.o (.i (.o .h))))))), none, .load false 1 (.s (.i (.i (.i (.i (.o (.o .h))))))), 0, false⟩,
    ⟨(some (.i (.o (.o (.o (.i (.o .h))))))), none, .mov (.s (.i (.o .h))), 0, false⟩,
    ⟨(some (.o (.i (.o (.o (.i (.o .h))))))), none, .ixA 4 1 (.s (.o (.i (.o .h)))) (.c (.int .i64 0)), 0, false⟩,
    ⟨(some (.i (.i (.o (.o (.i (.o .h))))))), none, .load false 1 (.s (.o (.i (.o (.o (.i (.o .h))))))), 0, false⟩,
    ⟨(some (.o (.o (.i (.o (.i (.o .h))))))), none, .nilc (.s (.i (.o (.o (.o (.i (.o .h))))))), 0, false⟩,
    ⟨(some (.i (.o (.i (.o (.i (.o .h))))))), none, .lea 0 (.s (.o (.o (.i (.o (.i (.o .h))))))), 0, false⟩,
    ⟨(some (.o (.i (.i (.o (.i (.o .h))))))), none, .ixA 256 1 (.s (.i (.o (.i (.o (.i (.o .h))))))) (.s (.i (.i (.o (.o (.i (.o .h))))))), 0, false⟩,
    ⟨(some (.i (.i (.i (.o (.i (.o .h))))))), none, .load false 1 (.s (.o (.i (.i (.o (.i (.o .h))))))), 0, false⟩,
    ⟨(some (.o (.o (.o (.i (.i (.o .h))))))), none, .build [(.int .u8 0), (.int .u8 0), (.int .u8 0), (.int .u8 0)] [(0, 1, (.s (.o (.i (.o (.o (.o (.o .h)))))))), (1, 1, (.s (.i (.o (.o (.i (.o (.o .h)))))))), (2, 1, (.s (.o (.o (.o (.o (.i (.o .h)))))))), (3, 1, (.s (.i (.i (.i (.o (.i (.o .h))))))))], 0, false⟩,
    ⟨none, none, .store 4 (.s (.o (.i (.o .h)))) (.s (.o (.o (.o (.i (.i (.o .h))))))), 0, false⟩] 0)
   (.reg [⟨(some (.i (.o (.o (.i (.i (.o .h))))))), none, .mov (.s (.o (.o (.o .h)))), 0, true⟩,
    ⟨(some (.o (.i (.o (.i (.i (.o .h))))))), none, .call (.i (.o (.i (.i (.o (.i .h)))))) [(.s (.i (.o (.o (.i (.i (.o .h)))))))], 0, true⟩,
    ⟨(some (.o (.o (.o .h)))), none, .mov (.s (.o (.i (.o (.i (.i (.o .h))))))), 0, true⟩] 0))
   (.seq (.reg [⟨(some (.i (.i (.o (.i (.i (.o .h))))))), none, .mov (.s (.o (.i .h))), 0, true⟩,
    ⟨(some (.o (.o (.i (.i (.i (.o .h))))))), none, .bin .eql (.s (.i (.i (.o (.i (.i (.o .h))))))) (.c (.int .i64 8)), 0, true⟩,
    ⟨(some (.i (.o (.i (.i (.i (.o .h))))))), none, .mov (.s (.o (.o (.i (.i (.i (.o .h))))))), 0, true⟩,
    ⟨(some (.o (.i (.i (.i (.i (.o .h))))))), (some ((.i (.o (.i (.i (.i (.o .h)))))), true)), .mov (.s (.i (.o (.o .h)))), 0, true⟩,
    ⟨(some (.i (.i (.i (.i (.i (.o .h))))))), (some ((.i (.o (.i (.i (.i (.o .h)))))), true)), .mov (.s (.o (.i .h))), 0, true⟩,
    ⟨(some (.o (.o (.o (.o (.o (.i .h))))))), (some ((.i (.o (.i (.i (.i (.o .h)))))), true)), .bin .rem (.s (.o (.i (.i (.i (.i (.o .h))))))) (.s (.i (.i (.i (.i (.i (.o .h))))))), 0, true⟩,
    ⟨(some (.i (.o (.o (.o (.o (.i .h))))))), (some ((.i (.o (.i (.i (.i (.o .h)))))), true)), .bin .eql (.s (.o (.o (.o (.o (.o (.i .h))))))) (.c (.int .i64 4)), 0, true⟩,
    ⟨(some (.o (.i (.o (.o (.o (.i .h))))))), none, .pick (.s (.i (.o (.i (.i (.i (.o .h))))))) (.s (.i (.o (.o (.o (.o (.i .h))))))) (.c (.bool false)), 0, true⟩] 0)
   (.cond (.s (.o (.i (.o (.o (.o (.i .h)))))))
   (.seq (.reg [⟨(some (.i (.i (.o (.o (.o (.i .h))))))), none, .mov (.c (.int .i64 0)), 0, true⟩] 0)
   (.block 2 (.loop (.seq (.reg [⟨(some (.o (.o (.i (.o (.o (.i .h))))))), none, .bin .lss (.s (.i (.i (.o (.o (.o (.i .h))))))) (.c (.int .i64 4)), 0, true⟩] 0)
   (.seq (.cond (.s (.o (.o (.i (.o (.o (.i .h)))))))
   .skip
   (.exit 2))
   (.seq (.block 3 (.seq (.reg [⟨(some (.i (.o (.i (.o (.o (.i .h))))))), none, .mov (.s (.i (.i (.o (.o (.o (.i .h))))))), 0, true⟩,
    ⟨(some (.i (.i (.o .h)))), none, .mov (.s (.i (.o (.i (.o (.o (.i .h))))))), 0, true⟩] 0)
   (.reg [⟨(some (.o (.i (.i (.o (.o (.i .h))))))), none, .mov (.s (.i (.i (.o .h)))), 0, false⟩,
    ⟨(some (.i (.i (.i (.o (.o (.i .h))))))), none, .mov (.s (.i (.o .h))), 0, false⟩,
    ⟨(some (.o (.o (.o (.i (.o (.i .h))))))), none, .mov (.s (.i (.i (.o .h)))), 0, false⟩,
    ⟨(some (.i (.o (.o (.i (.o (.i .h))))))), none, .ixA 4 1 (.s (.o (.i (.o .h)))) (.s (.o (.o (.o (.i (.o (.i .h))))))), 0, false⟩,
    ⟨(some (.o (.i (.o (.i (.o (.i .h))))))), none, .load false 1 (.s (.i (.o (.o (.i (.o (.i .h))))))), 0, false⟩,
    ⟨(some (.i (.i (.o (.i (.o (.i .h))))))), none, .nilc (.s (.i (.i (.i (.o (.o (.i .h))))))), 0, false⟩,
    ⟨(some (.o (.o (.i (.i (.o (.i .h))))))), none, .lea 0 (.s (.i (.i (.o (.i (.o (.i .h))))))), 0, false⟩,
    ⟨(some (.i (.o (.i (.i (.o (.i .h))))))), none, .ixA 256 1 (.s (.o (.o (.i (.i (.o (.i .h))))))) (.s (.o (.i (.o (.i (.o (.i .h))))))), 0, false⟩,
    ⟨(some (.o (.i (.i (.i (.o (.i .h))))))), none, .load false 1 (.s (.i (.o (.i (.i (.o (.i .h))))))), 0, false⟩,
    ⟨(some (.i (.i (.i (.i (.o (.i .h))))))), none, .ixA 4 1 (.s (.o (.i (.o .h)))) (.s (.o (.i (.i (.o (.o (.i .h))))))), 0, false⟩,
    ⟨none, none, .store 1 (.s (.i (.i (.i (.i (.o (.i .h))))))) (.s (.o (.i (.i (.i (.o (.i .h))))))), 0, false⟩] 0)))
   (.reg [⟨(some (.o (.o (.o (.o (.i (.i .h))))))), none, .bin .add (.s (.i (.i (.o (.o (.o (.i .h))))))) (.c (.int .i64 1)), 0, true⟩,
    ⟨(some (.i (.i (.o (.o (.o (.i .h))))))), none, .mov (.s (.o (.o (.o (.o (.i (.i .h))))))), 0, true⟩] 0)))))))
   .skip))))
   (.seq (.reg [⟨(some (.i (.o (.o (.o (.i (.i .h))))))), none, .mov (.c (.int .i64 0)), 0, true⟩] 0)
   (.block 4 (.loop (.seq (.reg [⟨(some (.o (.i (.o (.o (.i (.i .h))))))), none, .bin .lss (.s (.i (.o (.o (.o (.i (.i .h))))))) (.c (.int .i64 4)), 0, true⟩] 0)
   (.seq (.cond (.s (.o (.i (.o (.o (.i (.i .h)))))))
   .skip
   (.exit 4))
   (.seq (.block 5 (.seq (.reg [⟨(some (.i (.i (.o (.o (.i (.i .h))))))), none, .mov (.s (.i (.o (.o (.o (.i (.i .h))))))), 0, true⟩,
    ⟨(some (.o (.o (.i .h)))), none, .mov (.s (.i (.i (.o (.o (.i (.i .h))))))), 0, true⟩] 0)
   (.reg [⟨(some (.o (.o (.i (.o (.i (.i .h))))))), none, .mov (.s (.i (.i .h))), 0, false⟩,
    ⟨(some (.i (.o (.i (.o (.i (.i .h))))))), none, .mov (.s (.i (.o (.o .h)))), 0, false⟩,
    ⟨(some (.o (.i (.i (.o (.i (.i .h))))))), none, .mov (.s (.o (.o (.i .h)))), 0, false⟩,
    ⟨(some (.i (.i (.i (.o (.i (.i .h))))))), none, .mov (.s (.i (.i .h))), 0, false⟩,
    ⟨(some (.o (.o (.o (.i (.i (.i .h))))))), none, .mov (.s (.i (.o (.o .h)))), 0, false⟩,
    ⟨(some (.i (.o (.o (.i (.i (.i .h))))))), none, .mov (.s (.o (.i .h))), 0, false⟩,
    ⟨(some (.o (.i (.o (.i (.i (.i .h))))))), none, .bin .sub (.s (.o (.o (.o (.i (.i (.i .h))))))) (.s (.i (.o (.o (.i (.i (.i .h))))))), 0, false⟩,
    ⟨(some (.i (.i (.o (.i (.i (.i .h))))))), none, .mov (.s (.o (.o (.i .h)))), 0, false⟩,
    ⟨(some (.o (.o (.i (.i (.i (.i .h))))))), none, .ixS 4 (.s (.i (.i (.i (.o (.i (.i .h))))))) (.s (.o (.i (.o (.i (.i (.i .h))))))), 0, false⟩,
    ⟨(some (.i (.o (.i (.i (.i (.i .h))))))), none, .ixA 4 1 (.s (.o (.o (.i (.i (.i (.i .h))))))) (.s (.i (.i (.o (.i (.i (.i .h))))))), 0, false⟩,
    ⟨(some (.o (.i (.i (.i (.i (.i .h))))))), none, .load false 1 (.s (.i (.o (.i (.i (.i (.i .h))))))), 0, false⟩,
    ⟨(some (.i (.i (.i (.i (.i (.i .h))))))), none, .mov (.s (.o (.o (.i .h)))), 0, false⟩,
    ⟨(some (.o (.o (.o (.o (.o (.o (.o .h)))))))), none, .ixA 4 1 (.s (.o (.i (.o .h)))) (.s (.i (.i (.i (.i (.i (.i .h))))))), 0, false⟩,
    ⟨(some (.i (.o (.o (.o (.o (.o (.o .h)))))))), none, .load false 1 (.s (.o (.o (.o (.o (.o (.o (.o .h)))))))), 0, false⟩,
    ⟨(some (.o (.i (.o (.o (.o (.o (.o .h)))))))), none, .bin .xor (.s (.o (.i (.i (.i (.i (.i .h))))))) (.s (.i (.o (.o (.o (.o (.o (.o .h)))))))), 0, false⟩,
    ⟨(some (.i (.i (.o (.o (.o (.o (.o .h)))))))), none, .ixS 4 (.s (.o (.o (.i (.o (.i (.i .h))))))) (.s (.i (.o (.i (.o (.i (.i .h))))))), 0, false⟩,
    ⟨(some (.o (.o (.i (.o (.o (.o (.o .h)))))))), none, .ixA 4 1 (.s (.i (.i (.o (.o (.o (.o (.o .h)))))))) (.s (.o (.i (.i (.o (.i (.i .h))))))), 0, false⟩,
    ⟨none, none, .store 1 (.s (.o (.o (.i (.o (.o (.o (.o .h)))))))) (.s (.o (.i (.o (.o (.o (.o (.o .h)))))))), 0, false⟩] 0)))
   (.reg [⟨(some (.i (.o (.i (.o (.o (.o (.o .h)))))))), none, .bin .add (.s (.i (.o (.o (.o (.i (.i .h))))))) (.c (.int .i64 1)), 0, true⟩,
    ⟨(some (.i (.o (.o (.o (.i (.i .h))))))), none, .mov (.s (.i (.o (.i (.o (.o (.o (.o .h)))))))), 0, true⟩] 0))))))))))))
   (.reg [⟨(some (.o (.i (.i (.o (.o (.o (.o .h)))))))), none, .bin .add (.s (.o (.i (.o (.o (.o .h)))))) (.c (.int .i64 1)), 0, true⟩,
    ⟨(some (.o (.i (.o (.o (.o .h)))))), none, .mov (.s (.o (.i (.i (.o (.o (.o (.o .h)))))))), 0, true⟩] 0)))))))
   (.seq (.reg [⟨(some (.i (.i (.i (.o (.o (.o (.o .h)))))))), none, .mov (.s (.i (.o .h))), 0, true⟩,
    ⟨(some (.o (.o (.o (.i (.o (.o (.o .h)))))))), none, .mov (.s (.o (.i .h))), 0, true⟩,
    ⟨(some (.i (.o (.o (.i (.o (.o (.o .h)))))))), none, .bin .add (.s (.o (.o (.o (.i (.o (.o (.o .h)))))))) (.c (.int .i64 7)), 0, true⟩,
    ⟨(some (.o (.i (.o (.i (.o (.o (.o .h)))))))), none, .mks 16 16 [(.int .u8 0), (.int .u8 0), (.int .u8 0), (.int .u8 0), (.int .u8 0), (.int .u8 0), (.int .u8 0), (.int .u8 0), (.int .u8 0), (.int .u8 0), (.int .u8 0), (.int .u8 0), (.int .u8 0), (.int .u8 0), (.int .u8 0), (.int .u8 0)] (.s (.i (.o (.o (.i (.o (.o (.o .h)))))))) (.s (.i (.o (.o (.i (.o (.o (.o .h)))))))), 0, true⟩,
    ⟨(some (.i (.i (.o (.i (.o (.o (.o .h)))))))), none, .nilc (.s (.i (.i (.i (.o (.o (.o (.o .h)))))))), 0, true⟩,
    ⟨(some (.o (.o (.i (.i (.o (.o (.o .h)))))))), none, .lea 256 (.s (.i (.i (.o (.i (.o (.o (.o .h)))))))), 0, true⟩,
    ⟨none, none, .store 1 (.s (.o (.o (.i (.i (.o (.o (.o .h)))))))) (.s (.o (.i (.o (.i (.o (.o (.o .h)))))))), 0, true⟩] 0)
   (.seq (.seq (.reg [⟨(some (.i (.o (.i (.i (.o (.o (.o .h)))))))), none, .mov (.s (.i (.i .h))), 0, true⟩,
    ⟨(some (.o (.i (.i (.i (.o (.o (.o .h)))))))), none, .len (.s (.i (.o (.i (.i (.o (.o (.o .h)))))))), 0, true⟩,
    ⟨(some (.i (.i (.i (.i (.o (.o (.o .h)))))))), none, .mov (.c (.int .i64 0)), 0, true⟩] 0)
   (.block 6 (.loop (.seq (.reg [⟨(some (.o (.o (.o (.o (.i (.o (.o .h)))))))), none, .bin .lss (.s (.i (.i (.i (.i (.o (.o (.o .h)))))))) (.s (.o (.i (.i (.i (.o (.o (.o .h)))))))), 0, true⟩] 0)
   (.seq (.cond (.s (.o (.o (.o (.o (.i (.o (.o .h))))))))
   .skip
   (.exit 6))
   (.seq (.block 7 (.seq (.reg [⟨(some (.i (.o (.o (.o (.i (.o (.o .h)))))))), none, .mov (.s (.i (.i (.i (.i (.o (.o (.o .h)))))))), 0, true⟩,
    ⟨(some (.i (.o (.i .h)))), none, .mov (.s (.i (.o (.o (.o (.i (.o (.o .h)))))))), 0, true⟩] 0)
   (.reg [⟨(some (.o (.i (.o (.o (.i (.o (.o .h)))))))), none, .mov (.s (.i (.o .h))), 0, false⟩,
    ⟨(some (.i (.i (.o (.o (.i (.o (.o .h)))))))), none, .nilc (.s (.o (.i (.o (.o (.i (.o (.o .h)))))))), 0, false⟩,
    ⟨(some (.o (.o (.i (.o (.i (.o (.o .h)))))))), none, .lea 256 (.s (.i (.i (.o (.o (.i (.o (.o .h)))))))), 0, false⟩,
    ⟨(some (.i (.o (.i (.o (.i (.o (.o .h)))))))), none, .load false 1 (.s (.o (.o (.i (.o (.i (.o (.o .h)))))))), 0, false⟩,
    ⟨(some (.o (.i (.i (.o (.i (.o (.o .h)))))))), none, .mov (.s (.i (.o (.i .h)))), 0, false⟩,
    ⟨(some (.i (.i (.i (.o (.i (.o (.o .h)))))))), none, .bin .quo (.s (.o (.i (.i (.o (.i (.o (.o .h)))))))) (.c (.int .i64 4)), 0, false⟩,
    ⟨(some (.o (.o (.o (.i (.i (.o (.o .h)))))))), none, .ixS 16 (.s (.i (.o (.i (.o (.i (.o (.o .h)))))))) (.s (.i (.i (.i (.o (.i (.o (.o .h)))))))), 0, false⟩,
    ⟨(some (.i (.o (.o (.i (.i (.o (.o .h)))))))), none, .mov (.s (.i (.o (.i .h)))), 0, false⟩,
    ⟨(some (.o (.i (.o (.i (.i (.o (.o .h)))))))), none, .bin .rem (.s (.i (.o (.o (.i (.i (.o (.o .h)))))))) (.c (.int .i64 4)), 0, false⟩,
    ⟨(some (.i (.i (.o (.i (.i (.o (.o .h)))))))), none, .bin .mul (.c (.int .i64 4)) (.s (.o (.i (.o (.i (.i (.o (.o .h)))))))), 0, false⟩,
    ⟨(some (.o (.o (.i (.i (.i (.o (.o .h)))))))), none, .slArr 16 1 (.s (.o (.o (.o (.i (.i (.o (.o .h)))))))) (some (.s (.i (.i (.o (.i (.i (.o (.o .h))))))))) none, 0, false⟩,
    ⟨(some (.i (.o (.i (.i (.i (.o (.o .h)))))))), none, .mov (.s (.i (.i .h))), 0, false⟩,
    ⟨(some (.o (.i (.i (.i (.i (.o (.o .h)))))))), none, .mov (.s (.i (.o (.i .h)))), 0, false⟩,
    ⟨(some (.i (.i (.i (.i (.i (.o (.o .h)))))))), none, .ixS 4 (.s (.i (.o (.i (.i (.i (.o (.o .h)))))))) (.s (.o (.i (.i (.i (.i (.o (.o .h)))))))), 0, false⟩,
    ⟨(some (.o (.o (.o (.o (.o (.i (.o .h)))))))), none, .slArr 4 1 (.s (.i (.i (.i (.i (.i (.o (.o .h)))))))) none none, 0, false⟩,
    ⟨(some (.i (.o (.o (.o (.o (.i (.o .h)))))))), none, .cpy 1 (.s (.o (.o (.i (.i (.i (.o (.o .h)))))))) (.s (.o (.o (.o (.o (.o (.i (.o .h)))))))), 0, false⟩] 0)))
   (.reg [⟨(some (.o (.i (.o (.o (.o (.i (.o .h)))))))), none, .bin .add (.s (.i (.i (.i (.i (.o (.o (.o .h)))))))) (.c (.int .i64 1)), 0, true⟩,
    ⟨(some (.i (.i (.i (.i (.o (.o (.o .h)))))))), none, .mov (.s (.o (.i (.o (.o (.o (.i (.o .h)))))))), 0, true⟩] 0)))))))
   (.seq (.reg [⟨(some (.i (.i (.o (.o (.o (.i (.o .h)))))))), none, .mov (.s (.i (.o .h))), 0, true⟩,
    ⟨(some (.i .h)), none, .mov (.s (.i (.i (.o (.o (.o (.i (.o .h)))))))), 0, true⟩,
    ⟨(some (.o (.o .h))), none, .mov (.c (.bool true)), 0, true⟩] 0)
   .ret)))))))))) }

/-- (*halberd/aes.Cipher).Encrypt -/
noncomputable def d97 : Go.AE.Fd := { np := 2, res := [.cell (.i (.o .h)) true 16], code :=
   (.seq (.reg [⟨(some (.o (.o .h))), none, .box (.s (.o .h)), 0, true⟩,
    ⟨(some (.i (.o .h))), none, .alloc [(.int .u8 0), (.int .u8 0), (.int .u8 0), (.int .u8 0), (.int .u8 0), (.int .u8 0), (.int .u8 0), (.int .u8 0), (.int .u8 0), (.int .u8 0), (.int .u8 0), (.int .u8 0), (.int .u8 0), (.int .u8 0), (.int .u8 0), (.int .u8 0)], 0, true⟩] 0)
   (.seq (.seq (.reg [⟨(some (.i (.o (.o (.o .h))))), none, .mov (.c (.int .i64 0)), 0, true⟩] 0)
   (.block 0 (.loop (.seq (.reg [⟨(some (.o (.i (.o (.o .h))))), none, .bin .lss (.s (.i (.o (.o (.o .h))))) (.c (.int .i64 16)), 0, true⟩] 0)
   (.seq (.cond (.s (.o (.i (.o (.o .h)))))
   .skip
   (.exit 0))
   (.seq (.block 1 (.seq (.reg [⟨(some (.i (.i (.o (.o .h))))), none, .mov (.s (.i (.o (.o (.o .h))))), 0, true⟩,
    ⟨(some (.o (.i .h))), none, .mov (.s (.i (.i (.o (.o .h))))), 0, true⟩] 0)
   (.reg [⟨(some (.o (.o (.i (.o .h))))), none, .mov (.s (.o (.i .h))), 0, false⟩,
    ⟨(some (.i (.o (.i (.o .h))))), none, .ixA 16 1 (.s (.o (.o .h))) (.s (.o (.o (.i (.o .h))))), 0, false⟩,
    ⟨(some (.o (.i (.i (.o .h))))), none, .load false 1 (.s (.i (.o (.i (.o .h))))), 0, false⟩,
    ⟨(some (.i (.i (.i (.o .h))))), none, .mov (.s .h), 0, false⟩,
    ⟨(some (.o (.o (.o (.i .h))))), none, .nilc (.s (.i (.i (.i (.o .h))))), 0, false⟩,
    ⟨(some (.i (.o (.o (.i .h))))), none, .lea 256 (.s (.o (.o (.o (.i .h))))), 0, false⟩,
    ⟨(some (.o (.i (.o (.i .h))))), none, .load false 1 (.s (.i (.o (.o (.i .h))))), 0, false⟩,
    ⟨(some (.i (.i (.o (.i .h))))), none, .mov (.s (.o (.i .h))), 0, false⟩,
    ⟨(some (.o (.o (.i (.i .h))))), none, .ixS 16 (.s (.o (.i (.o (.i .h))))) (.c (.int .i64 0)), 0, false⟩,
    ⟨(some (.i (.o (.i (.i .h))))), none, .ixA 16 1 (.s (.o (.o (.i (.i .h))))) (.s (.i (.i (.o (.i .h))))), 0, false⟩,
    ⟨(some (.o (.i (.i (.i .h))))), none, .load false 1 (.s (.i (.o (.i (.i .h))))), 0, false⟩,
    ⟨(some (.i (.i (.i (.i .h))))), none, .bin .xor (.s (.o (.i (.i (.o .h))))) (.s (.o (.i (.i (.i .h))))), 0, false⟩,
    ⟨(some (.o (.o (.o (.o (.o .h)))))), none, .ixA 16 1 (.s (.o (.o .h))) (.s (.o (.o (.i (.o .h))))), 0, false⟩,
    ⟨none, none, .store 1 (.s (.o (.o (.o (.o (.o .h)))))) (.s (.i (.i (.i (.i .h))))), 0, false⟩] 0)))
   (.reg [⟨(some (.i (.o (.o (.o (.o .h)))))), none, .bin .add (.s (.i (.o (.o (.o .h))))) (.c (.int .i64 1)), 0, true⟩,
    ⟨(some (.i (.o (.o (.o .h))))), none, .mov (.s (.i (.o (.o (.o (.o .h)))))), 0, true⟩] 0)))))))
   (.seq (.seq (.reg [⟨(some (.i (.i .h))), none, .mov (.c (.int .i64 1)), 0, true⟩] 0)
   (.block 2 (.loop (.seq (.seq (.reg [⟨(some (.o (.i (.o (.o (.o .h)))))), none, .mov (.s (.i (.i .h))), 0, true⟩,
    ⟨(some (.i (.i (.o (.o (.o .h)))))), none, .mov (.s .h), 0, true⟩,
    ⟨(some (.o (.o (.i (.o (.o .h)))))), none, .nilc (.s (.i (.i (.o (.o (.o .h)))))), 0, true⟩,
    ⟨(some (.i (.o (.i (.o (.o .h)))))), none, .lea 256 (.s (.o (.o (.i (.o (.o .h)))))), 0, true⟩,
    ⟨(some (.o (.i (.i (.o (.o .h)))))), none, .load false 1 (.s (.i (.o (.i (.o (.o .h)))))), 0, true⟩,
    ⟨(some (.i (.i (.i (.o (.o .h)))))), none, .len (.s (.o (.i (.i (.o (.o .h)))))), 0, true⟩,
    ⟨(some (.o (.o (.o (.i (.o .h)))))), none, .bin .lss (.s (.o (.i (.o (.o (.o .h)))))) (.s (.i (.i (.i (.o (.o .h)))))), 0, true⟩] 0)
   (.cond (.s (.o (.o (.o (.i (.o .h))))))
   .skip
   (.exit 2)))
   (.seq (.block 3 (.seq (.reg [⟨(some (.o (.o (.o .h)))), none, .alloc [(.int .u8 0), (.int .u8 0), (.int .u8 0), (.int .u8 0), (.int .u8 0), (.int .u8 0), (.int .u8 0), (.int .u8 0), (.int .u8 0), (.int .u8 0), (.int .u8 0), (.int .u8 0), (.int .u8 0), (.int .u8 0), (.int .u8 0), (.int .u8 0)], 0, true⟩] 0)
   (.seq (.seq (.reg [⟨(some (.i (.i (.o (.i (.o .h)))))), none, .mov (.c (.int .i64 0)), 0, true⟩] 0)
   (.block 4 (.loop (.seq (.reg [⟨(some (.o (.o (.i (.i (.o .h)))))), none, .bin .lss (.s (.i (.i (.o (.i (.o .h)))))) (.c (.int .i64 16)), 0, true⟩] 0)
   (.seq (.cond (.s (.o (.o (.i (.i (.o .h))))))
   .skip
   (.exit 4))
   (.seq (.block 5 (.seq (.reg [⟨(some (.i (.o (.i (.i (.o .h)))))), none, .mov (.s (.i (.i (.o (.i (.o .h)))))), 0, true⟩,
    ⟨(some (.i (.o (.o .h)))), none, .mov (.s (.i (.o (.i (.i (.o .h)))))), 0, true⟩] 0)
   (.reg [⟨(some (.o (.i (.i (.i (.o .h)))))), none, .mov (.s (.i (.o (.o .h)))), 0, false⟩,
    ⟨(some (.i (.i (.i (.i (.o .h)))))), none, .mov (.s .h), 0, false⟩,
    ⟨(some (.o (.o (.o (.o (.i .h)))))), none, .mov (.s (.i (.o (.o .h)))), 0, false⟩,
    ⟨(some (.i (.o (.o (.o (.i .h)))))), none, .mov (.s (.i (.o (.o .h)))), 0, false⟩,
    ⟨(some (.o (.i (.o (.o (.i .h)))))), none, .bin .rem (.s (.i (.o (.o (.o (.i .h)))))) (.c (.int .i64 4)), 0, false⟩,
    ⟨(some (.i (.i (.o (.o (.i .h)))))), none, .bin .mul (.c (.int .i64 4)) (.s (.o (.i (.o (.o (.i .h)))))), 0, false⟩,
    ⟨(some (.o (.o (.i (.o (.i .h)))))), none, .bin .add (.s (.o (.o (.o (.o (.i .h)))))) (.s (.i (.i (.o (.o (.i .h)))))), 0, false⟩,
    ⟨(some (.i (.o (.i (.o (.i .h)))))), none, .bin .rem (.s (.o (.o (.i (.o (.i .h)))))) (.c (.int .i64 16)), 0, false⟩,
    ⟨(some (.o (.i (.i (.o (.i .h)))))), none, .ixA 16 1 (.s (.o (.o .h))) (.s (.i (.o (.i (.o (.i .h)))))), 0, false⟩,
    ⟨(some (.i (.i (.i (.o (.i .h)))))), none, .load false 1 (.s (.o (.i (.i (.o (.i .h)))))), 0, false⟩,
    ⟨(some (.o (.o (.o (.i (.i .h)))))), none, .nilc (.s (.i (.i (.i (.i (.o .h)))))), 0, false⟩,
    ⟨(some (.i (.o (.o (.i (.i .h)))))), none, .lea 0 (.s (.o (.o (.o (.i (.i .h)))))), 0, false⟩,
    ⟨(some (.o (.i (.o (.i (.i .h)))))), none, .ixA 256 1 (.s (.i (.o (.o (.i (.i .h)))))) (.s (.i (.i (.i (.o (.i .h)))))), 0, false⟩,
    ⟨(some (.i (.i (.o (.i (.i .h)))))), none, .load false 1 (.s (.o (.i (.o (.i (.i .h)))))), 0, false⟩,
    ⟨(some (.o (.o (.i (.i (.i .h)))))), none, .ixA 16 1 (.s (.o (.o (.o .h)))) (.s (.o (.i (.i (.i (.o .h)))))), 0, false⟩,
    ⟨none, none, .store 1 (.s (.o (.o (.i (.i (.i .h)))))) (.s (.i (.i (.o (.i (.i .h)))))), 0, false⟩] 0)))
   (.reg [⟨(some (.i (.o (.i (.i (.i .h)))))), none, .bin .add (.s (.i (.i (.o (.i (.o .h)))))) (.c (.int .i64 1)), 0, true⟩,
    ⟨(some (.i (.i (.o (.i (.o .h)))))), none, .mov (.s (.i (.o (.i (.i (.i .h)))))), 0, true⟩] 0)))))))
   (.seq (.seq (.reg [⟨(some (.o (.i (.i (.i (.i .h)))))), none, .mov (.s (.i (.i .h))), 0, true⟩,
    ⟨(some (.i (.i (.i (.i (.i .h)))))), none, .mov (.s .h), 0, true⟩,
    ⟨(some (.o (.o (.o (.o (.o (.o .h))))))), none, .nilc (.s (.i (.i (.i (.i (.i .h)))))), 0, true⟩,
    ⟨(some (.i (.o (.o (.o (.o (.o .h))))))), none, .lea 256 (.s (.o (.o (.o (.o (.o (.o .h))))))), 0, true⟩,
    ⟨(some (.o (.i (.o (.o (.o (.o .h))))))), none, .load false 1 (.s (.i (.o (.o (.o (.o (.o .h))))))), 0, true⟩,
    ⟨(some (.i (.i (.o (.o (.o (.o .h))))))), none, .len (.s (.o (.i (.o (.o (.o (.o .h))))))), 0, true⟩,
    ⟨(some (.o (.o (.i (.o (.o (.o .h))))))), none, .bin .sub (.s (.i (.i (.o (.o (.o (.o .h))))))) (.c (.int .i64 1)), 0, true⟩,
    ⟨(some (.i (.o (.i (.o (.o (.o .h))))))), none, .bin .lss (.s (.o (.i (.i (.i (.i .h)))))) (.s (.o (.o (.i (.o (.o (.o .h))))))), 0, true⟩] 0)
   (.cond (.s (.i (.o (.i (.o (.o (.o .h)))))))
   (.seq (.reg [⟨(some (.o (.i (.o .h)))), none, .mov (.c (.int .i64 0)), 0, true⟩] 0)
   (.block 6 (.loop (.seq (.seq (.reg [⟨(some (.o (.i (.i (.o (.o (.o .h))))))), none, .mov (.s (.o (.i (.o .h)))), 0, true⟩,
    ⟨(some (.i (.i (.i (.o (.o (.o .h))))))), none, .bin .lss (.s (.o (.i (.i (.o (.o (.o .h))))))) (.c (.int .i64 16)), 0, true⟩] 0)
   (.cond (.s (.i (.i (.i (.o (.o (.o .h)))))))
   .skip
   (.exit 6)))
   (.seq (.block 7 (.seq (.reg [⟨(some (.o (.i (.o (.i (.o (.o .h))))))), none, .mov (.s (.o (.i (.o .h)))), 0, false⟩,
    ⟨(some (.i (.i (.o (.i (.o (.o .h))))))), none, .ixA 16 1 (.s (.o (.o (.o .h)))) (.s (.o (.i (.o (.i (.o (.o .h))))))), 0, false⟩,
    ⟨(some (.o (.o (.i (.i (.o (.o .h))))))), none, .load false 1 (.s (.i (.i (.o (.i (.o (.o .h))))))), 0, false⟩,
    ⟨(some (.i (.o (.i (.i (.o (.o .h))))))), none, .mov (.s (.o (.i (.o .h)))), 0, false⟩,
    ⟨(some (.o (.i (.i (.i (.o (.o .h))))))), none, .bin .add (.s (.i (.o (.i (.i (.o (.o .h))))))) (.c (.int .i64 1)), 0, false⟩,
    ⟨(some (.i (.i (.i (.i (.o (.o .h))))))), none, .ixA 16 1 (.s (.o (.o (.o .h)))) (.s (.o (.i (.i (.i (.o (.o .h))))))), 0, false⟩,
    ⟨(some (.o (.o (.o (.o (.i (.o .h))))))), none, .load false 1 (.s (.i (.i (.i (.i (.o (.o .h))))))), 0, false⟩,
    ⟨(some (.i (.o (.o (.o (.i (.o .h))))))), none, .mov (.s (.o (.i (.o .h)))), 0, false⟩,
    ⟨(some (.o (.i (.o (.o (.i (.o .h))))))), none, .bin .add (.s (.i (.o (.o (.o (.i (.o .h))))))) (.c (.int .i64 2)), 0, false⟩,
    ⟨(some (.i (.i (.o (.o (.i (.o .h))))))), none, .ixA 16 1 (.s (.o (.o (.o .h)))) (.s (.o (.i (.o (.o (.i (.o .h))))))), 0, false⟩,
    ⟨(some (.o (.o (.i (.o (.i (.o .h))))))), none, .load false 1 (.s (.i (.i (.o (.o (.i (.o .h))))))), 0, false⟩,
    ⟨(some (.i (.o (.i (.o (.i (.o .h))))))), none, .mov (.s (.o (.i (.o .h)))), 0, false⟩,
    ⟨(some (.o (.i (.i (.o (.i (.o .h))))))), none, .bin .add (.s (.i (.o (.i (.o (.i (.o .h))))))) (.c (.int .i64 3)), 0, false⟩,
    ⟨(some (.i (.i (.i (.o (.i (.o .h))))))), none, .ixA 16 1 (.s (.o (.o (.o .h)))) (.s (.o (.i (.i (.o (.i (.o .h))))))), 0, false⟩,
    ⟨(some (.o (.o (.o (.i (.i (.o .h))))))), none, .load false 1 (.s (.i (.i (.i (.o (.i (.o .h))))))), 0, false⟩,
    ⟨(some (.i (.i (.o .h)))), none, .mov (.s (.o (.o (.i (.i (.o (.o .h))))))), 0, false⟩,
    ⟨(some (.o (.o (.i .h)))), none, .mov (.s (.o (.o (.o (.o (.i (.o .h))))))), 0, false⟩,
    ⟨(some (.i (.o (.i .h)))), none, .mov (.s (.o (.o (.i (.o (.i (.o .h))))))), 0, false⟩,
    ⟨(some (.o (.i (.i .h)))), none, .mov (.s (.o (.o (.o (.i (.i (.o .h))))))), 0, false⟩] 0)
   (.seq (.reg [⟨(some (.i (.o (.o (.i (.i (.o .h))))))), none, .mov (.s (.i (.i (.o .h)))), 0, true⟩,
    ⟨(some (.o (.i (.o (.i (.i (.o .h))))))), none, .mov (.s (.o (.o (.i .h)))), 0, true⟩,
    ⟨(some (.i (.i (.o (.i (.i (.o .h))))))), none, .bin .xor (.s (.i (.o (.o (.i (.i (.o .h))))))) (.s (.o (.i (.o (.i (.i (.o .h))))))), 0, true⟩,
    ⟨(some (.o (.o (.i (.i (.i (.o .h))))))), none, .mov (.s (.i (.o (.i .h)))), 0, true⟩,
    ⟨(some (.i (.o (.i (.i (.i (.o .h))))))), none, .bin .xor (.s (.i (.i (.o (.i (.i (.o .h))))))) (.s (.o (.o (.i (.i (.i (.o .h))))))), 0, true⟩,
    ⟨(some (.o (.i (.i (.i (.i (.o .h))))))), none, .mov (.s (.o (.i (.i .h)))), 0, true⟩,
    ⟨(some (.i (.i (.i (.i (.i (.o .h))))))), none, .bin .xor (.s (.i (.o (.i (.i (.i (.o .h))))))) (.s (.o (.i (.i (.i (.i (.o .h))))))), 0, true⟩,
    ⟨(some (.i (.i (.i .h)))), none, .mov (.s (.i (.i (.i (.i (.i (.o .h))))))), 0, true⟩] 0)
   (.seq (.reg [⟨(some (.o (.o (.o (.o (.o (.i .h))))))), none, .mov (.s (.o (.i (.o .h)))), 0, false⟩,
    ⟨(some (.i (.o (.o (.o (.o (.i .h))))))), none, .ixA 16 1 (.s (.o (.o (.o .h)))) (.s (.o (.o (.o (.o (.o (.i .h))))))), 0, false⟩,
    ⟨(some (.o (.i (.o (.o (.o (.i .h))))))), none, .load false 1 (.s (.i (.o (.o (.o (.o (.i .h))))))), 0, false⟩,
    ⟨(some (.i (.i (.o (.o (.o (.i .h))))))), none, .mov (.s (.i (.i (.i .h)))), 0, false⟩,
    ⟨(some (.o (.o (.i (.o (.o (.i .h))))))), none, .mov (.s (.i (.i (.o .h)))), 0, false⟩,
    ⟨(some (.i (.o (.i (.o (.o (.i .h))))))), none, .mov (.s (.o (.o (.i .h)))), 0, false⟩,
    ⟨(some (.o (.i (.i (.o (.o (.i .h))))))), none, .bin .xor (.s (.o (.o (.i (.o (.o (.i .h))))))) (.s (.i (.o (.i (.o (.o (.i .h))))))), 0, false⟩,
    ⟨(some (.i (.i (.i (.o (.o (.i .h))))))), none, .call (.i (.o (.i (.i (.o (.i .h)))))) [(.s (.o (.i (.i (.o (.o (.i .h)))))))], 0, false⟩,
    ⟨(some (.o (.o (.o (.i (.o (.i .h))))))), none, .bin .xor (.s (.i (.i (.o (.o (.o (.i .h))))))) (.s (.i (.i (.i (.o (.o (.i .h))))))), 0, false⟩,
    ⟨(some (.i (.o (.o (.i (.o (.i .h))))))), none, .bin .xor (.s (.o (.i (.o (.o (.o (.i .h))))))) (.s (.o (.o (.o (.i (.o (.i .h))))))), 0, false⟩,
    ⟨(some (.o (.i (.o (.i (.o (.i .h))))))), none, .ixA 16 1 (.s (.o (.o (.o .h)))) (.s (.o (.o (.o (.o (.o (.i .h))))))), 0, false⟩,
    ⟨none, none, .store 1 (.s (.o (.i (.o (.i (.o (.i .h))))))) (.s (.i (.o (.o (.i (.o (.i .h))))))), 0, false⟩] 0)
   (.seq (.reg [⟨(some (.i (.i (.o (.i (.o (.i .h))))))), none, .mov (.s (.o (.i (.o .h)))), 0, false⟩,
    ⟨(some (.o (.o (.i (.i (.o (.i .h))))))), none, .bin .add (.s (.i (.i (.o (.i (.o (.i .h))))))) (.c (.int .i64 1)), 0, false⟩,
    ⟨(some (.i (.o (.i (.i (.o (.i .h))))))), none, .ixA 16 1 (.s (.o (.o (.o .h)))) (.s (.o (.o (.i (.i (.o (.i .h))))))), 0, false⟩,
    ⟨(some (.o (.i (.i (.i (.o (.i .h))))))), none, .load false 1 (.s (.i (.o (.i (.i (.o (.i .h))))))), 0, false⟩,
    ⟨(some (.i (.i (.i (.i (.o (.i .h))))))), none, .mov (.s (.i (.i (.i .h)))), 0, false⟩,
    ⟨(some (.o (.o (.o (.o (.i (.i .h))))))), none, .mov (.s (.o (.o (.i .h)))), 0, false⟩,
    ⟨(some (.i (.o (.o (.o (.i (.i .h))))))), none, .mov (.s (.i (.o (.i .h)))), 0, false⟩,
    ⟨(some (.o (.i (.o (.o (.i (.i .h))))))), none, .bin .xor (.s (.o (.o (.o (.o (.i (.i .h))))))) (.s (.i (.o (.o (.o (.i (.i .h))))))), 0, false⟩,
    ⟨(some (.i (.i (.o (.o (.i (.i .h))))))), none, .call (.i (.o (.i (.i (.o (.i .h)))))) [(.s (.o (.i (.o (.o (.i (.i .h)))))))], 0, false⟩,
    ⟨(some (.o (.o (.i (.o (.i (.i .h))))))), none, .bin .xor (.s (.i (.i (.i (.i (.o (.i .h))))))) (.s (.i (.i (.o (.o (.i (.i .h))))))), 0, false⟩,
    ⟨(some (.i (.o (.i (.o (.i (.i .h))))))), none, .bin .xor (.s (.o (.i (.i (.i (.o (.i .h))))))) (.s (.o (.o (.i (.o (.i (.i .h))))))), 0, false⟩,
    ⟨(some (.o (.i (.i (.o (.i (.i .h))))))), none, .ixA 16 1 (.s (.o (.o (.o .h)))) (.s (.o (.o (.i (.i (.o (.i .h))))))), 0, false⟩,
    ⟨none, none, .store 1 (.s (.o (.i (.i (.o (.i (.i .h))))))) (.s (.i (.o (.i (.o (.i (.i .h))))))), 0, false⟩] 0)
   (.seq (.reg [⟨(some (.i (.i (.i (.o (.i (.i .h))))))), none, .mov (.s (.o (.i (.o .h)))), 0, false⟩,
    ⟨(some (.o (.o (.o (.i (.i (.i .h))))))), none, .bin .add (.s (.i (.i (.i (.o (.i (.i .h))))))) (.c (.int .i64 2)), 0, false⟩,
    ⟨(some (.i (.o (.o (.i (.i (.i .h))))))), none, .ixA 16 1 (.s (.o (.o (.o .h)))) (.s (.o (.o (.o (.i (.i (.i .h))))))), 0, false⟩,
    ⟨(some (.o (.i (.o (.i (.i (.i .h))))))), none, .load false 1 (.s (.i (.o (.o (.i (.i (.i .h))))))), 0, false⟩,
    ⟨(some (.i (.i (.o (.i (.i (.i .h))))))), none, .mov (.s (.i (.i (.i .h)))), 0, false⟩,
    ⟨(some (.o (.o (.i (.i (.i (.i .h))))))), none, .mov (.s (.i (.o (.i .h)))), 0, false⟩,
    ⟨(some (.i (.o (.i (.i (.i (.i .h))))))), none, .mov (.s (.o (.i (.i .h)))), 0, false⟩,
    ⟨(some (.o (.i (.i (.i (.i (.i .h))))))), none, .bin .xor (.s (.o (.o (.i (.i (.i (.i .h))))))) (.s (.i (.o (.i (.i (.i (.i .h))))))), 0, false⟩,
    ⟨(some (.i (.i (.i (.i (.i (.i .h))))))), none, .call (.i (.o (.i (.i (.o (.i .h)))))) [(.s (.o (.i (.i (.i (.i (.i .h)))))))], 0, false⟩,
    ⟨(some (.o (.o (.o (.o (.o (.o (.o .h)))))))), none, .bin .xor (.s (.i (.i (.o (.i (.i (.i .h))))))) (.s (.i (.i (.i (.i (.i (.i .h))))))), 0, false⟩,
    ⟨(some (.i (.o (.o (.o (.o (.o (.o .h)))))))), none, .bin .xor (.s (.o (.i (.o (.i (.i (.i .h))))))) (.s (.o (.o (.o (.o (.o (.o (.o .h)))))))), 0, false⟩,
    ⟨(some (.o (.i (.o (.o (.o (.o (.o .h)))))))), none, .ixA 16 1 (.s (.o (.o (.o .h)))) (.s (.o (.o (.o (.i (.i (.i .h))))))), 0, false⟩,
    ⟨none, none, .store 1 (.s (.o (.i (.o (.o (.o (.o (.o .h)))))))) (.s (.i (.o (.o (.o (.o (.o (.o .h)))))))), 0, false⟩] 0)
   (.reg [⟨(some (.i (.i (.o (.o (.o (.o (.o .h)))))))), none, .mov (.s (.o (.i (.o .h)))), 0, false⟩,
    ⟨(some (.o (.o (.i (.o (.o (.o (.o .h)))))))), none, .bin .add (.s (.i (.i (.o (.o (.o (.o (.o .h)))))))) (.c (.int .i64 3)), 0, false⟩,
    ⟨(some (.i (.o (.i (.o (.o (.o (.o .h)))))))), none, .ixA 16 1 (.s (.o (.o (.o .h)))) (.s (.o (.o (.i (.o (.o (.o (.o .h)))))))), 0, false⟩,
    ⟨(some (.o (.i (.i (.o (.o (.o (.o .h)))))))), none, .load false 1 (.s (.i (.o (.i (.o (.o (.o (.o .h)))))))), 0, false⟩,
    ⟨(some (.i (.i (.i (.o (.o (.o (.o .h)))))))), none, .mov (.s (.i (.i (.i .h)))), 0, false⟩,
    ⟨(some (.o (.o (.o (.i (.o (.o (.o .h)))))))), none, .mov (.s (.o (.i (.i .h)))), 0, false⟩,
    ⟨(some (.i (.o (.o (.i (.o (.o (.o .h)))))))), none, .mov (.s (.i (.i (.o .h)))), 0, false⟩,
    ⟨(some (.o (.i (.o (.i (.o (.o (.o .h)))))))), none, .bin .xor (.s (.o (.o (.o (.i (.o (.o (.o .h)))))))) (.s (.i (.o (.o (.i (.o (.o (.o .h)))))))), 0, false⟩,
    ⟨(some (.i (.i (.o (.i (.o (.o (.o .h)))))))), none, .call (.i (.o (.i (.i (.o (.i .h)))))) [(.s (.o (.i (.o (.i (.o (.o (.o .h))))))))], 0, false⟩,
    ⟨(some (.o (.o (.i (.i (.o (.o (.o .h)))))))), none, .bin .xor (.s (.i (.i (.i (.o (.o (.o (.o .h)))))))) (.s (.i (.i (.o (.i (.o (.o (.o .h)))))))), 0, false⟩,
    ⟨(some (.i (.o (.i (.i (.o (.o (.o .h)))))))), none, .bin .xor (.s (.o (.i (.i (.o (.o (.o (.o .h)))))))) (.s (.o (.o (.i (.i (.o (.o (.o .h)))))))), 0, false⟩,
    ⟨(some (.o (.i (.i (.i (.o (.o (.o .h)))))))), none, .ixA 16 1 (.s (.o (.o (.o .h)))) (.s (.o (.o (.i (.o (.o (.o (.o .h)))))))), 0, false⟩,
    ⟨none, none, .store 1 (.s (.o (.i (.i (.i (.o (.o (.o .h)))))))) (.s (.i (.o (.i (.i (.o (.o (.o .h)))))))), 0, false⟩] 0)))))))
   (.reg [⟨(some (.o (.o (.o (.i (.o (.o .h))))))), none, .mov (.s (.o (.i (.o .h)))), 0, true⟩,
    ⟨(some (.i (.o (.o (.i (.o (.o .h))))))), none, .bin .add (.s (.o (.o (.o (.i (.o (.o .h))))))) (.c (.int .i64 4)), 0, true⟩,
    ⟨(some (.o (.i (.o .h)))), none, .mov (.s (.i (.o (.o (.i (.o (.o .h))))))), 0, true⟩] 0))))))
   .skip))
   (.seq (.reg [⟨(some (.i (.i (.i (.i (.o (.o (.o .h)))))))), none, .mov (.c (.int .i64 0)), 0, true⟩] 0)
   (.block 8 (.loop (.seq (.reg [⟨(some (.o (.o (.o (.o (.i (.o (.o .h)))))))), none, .bin .lss (.s (.i (.i (.i (.i (.o (.o (.o .h)))))))) (.c (.int .i64 16)), 0, true⟩] 0)
   (.seq (.cond (.s (.o (.o (.o (.o (.i (.o (.o .h))))))))
   .skip
   (.exit 8))
   (.seq (.block 9 (.seq (.reg [⟨(some (.i (.o (.o (.o (.i (.o (.o .h)))))))), none, .mov (.s (.i (.i (.i (.i (.o (.o (.o .h)))))))), 0, true⟩,
    ⟨(some (.o (.o (.o (.o .h))))), none, .mov (.s (.i (.o (.o (.o (.i (.o (.o .h)))))))), 0, true⟩] 0)
   (.reg [⟨(some (.o (.i (.o (.o (.i (.o (.o .h)))))))), none, .mov (.s (.o (.o (.o (.o .h))))), 0, false⟩,
    ⟨(some (.i (.i (.o (.o (.i (.o (.o .h)))))))), none, .mov (.s (.o (.o (.o (.o .h))))), 0, false⟩,
    ⟨(some (.o (.o (.i (.o (.i (.o (.o .h)))))))), none, .ixA 16 1 (.s (.o (.o (.o .h)))) (.s (.i (.i (.o (.o (.i (.o (.o .h)))))))), 0, false⟩,
    ⟨(some (.i (.o (.i (.o (.i (.o (.o .h)))))))), none, .load false 1 (.s (.o (.o (.i (.o (.i (.o (.o .h)))))))), 0, false⟩,
    ⟨(some (.o (.i (.i (.o (.i (.o (.o .h)))))))), none, .mov (.s .h), 0, false⟩,
    ⟨(some (.i (.i (.i (.o (.i (.o (.o .h)))))))), none, .nilc (.s (.o (.i (.i (.o (.i (.o (.o .h)))))))), 0, false⟩,
    ⟨(some (.o (.o (.o (.i (.i (.o (.o .h)))))))), none, .lea 256 (.s (.i (.i (.i (.o (.i (.o (.o .h)))))))), 0, false⟩,
    ⟨(some (.i (.o (.o (.i (.i (.o (.o .h)))))))), none, .load false 1 (.s (.o (.o (.o (.i (.i (.o (.o .h)))))))), 0, false⟩,
    ⟨(some (.o (.i (.o (.i (.i (.o (.o .h)))))))), none, .mov (.s (.i (.i .h))), 0, false⟩,
    ⟨(some (.i (.i (.o (.i (.i (.o (.o .h)))))))), none, .mov (.s (.o (.o (.o (.o .h))))), 0, false⟩,
    ⟨(some (.o (.o (.i (.i (.i (.o (.o .h)))))))), none, .ixS 16 (.s (.i (.o (.o (.i (.i (.o (.o .h)))))))) (.s (.o (.i (.o (.i (.i (.o (.o .h)))))))), 0, false⟩,
    ⟨(some (.i (.o (.i (.i (.i (.o (.o .h)))))))), none, .ixA 16 1 (.s (.o (.o (.i (.i (.i (.o (.o .h)))))))) (.s (.i (.i (.o (.i (.i (.o (.o .h)))))))), 0, false⟩,
    ⟨(some (.o (.i (.i (.i (.i (.o (.o .h)))))))), none, .load false 1 (.s (.i (.o (.i (.i (.i (.o (.o .h)))))))), 0, false⟩,
    ⟨(some (.i (.i (.i (.i (.i (.o (.o .h)))))))), none, .bin .xor (.s (.i (.o (.i (.o (.i (.o (.o .h)))))))) (.s (.o (.i (.i (.i (.i (.o (.o .h)))))))), 0, false⟩,
    ⟨(some (.o (.o (.o (.o (.o (.i (.o .h)))))))), none, .ixA 16 1 (.s (.o (.o .h))) (.s (.o (.i (.o (.o (.i (.o (.o .h)))))))), 0, false⟩,
    ⟨none, none, .store 1 (.s (.o (.o (.o (.o (.o (.i (.o .h)))))))) (.s (.i (.i (.i (.i (.i (.o (.o .h)))))))), 0, false⟩] 0)))
   (.reg [⟨(some (.i (.o (.o (.o (.o (.i (.o .h)))))))), none, .bin .add (.s (.i (.i (.i (.i (.o (.o (.o .h)))))))) (.c (.int .i64 1)), 0, true⟩,
    ⟨(some (.i (.i (.i (.i (.o (.o (.o .h)))))))), none, .mov (.s (.i (.o (.o (.o (.o (.i (.o .h)))))))), 0, true⟩] 0)))))))))))
   (.reg [⟨(some (.i (.o (.o (.i (.o .h)))))), none, .mov (.s (.i (.i .h))), 0, true⟩,
    ⟨(some (.o (.i (.o (.i (.o .h)))))), none, .bin .add (.s (.i (.o (.o (.i (.o .h)))))) (.c (.int .i64 1)), 0, true⟩,
    ⟨(some (.i (.i .h))), none, .mov (.s (.o (.i (.o (.i (.o .h)))))), 0, true⟩] 0))))))
   (.seq (.reg [⟨(some (.o (.i (.o (.o (.o (.i (.o .h)))))))), none, .load true 16 (.s (.o (.o .h))), 0, true⟩,
    ⟨none, none, .store 16 (.s (.i (.o .h))) (.s (.o (.i (.o (.o (.o (.i (.o .h)))))))), 0, true⟩] 0)
   .ret)))) }

/-- halberd/gcm.load -/
noncomputable def d98 : Go.AE.Fd := { np := 1, res := [.cell (.i .h) true 2], code :=
   (.seq (.reg [⟨(some (.i .h)), none, .alloc [(.int .u64 0), (.int .u64 0)], 0, true⟩] 0)
   (.seq (.reg [⟨(some (.o (.o .h))), none, .alloc [(.int .u64 0), (.int .u64 0)], 0, true⟩] 0)
   (.seq (.seq (.reg [⟨(some (.o (.i .h))), none, .mov (.c (.int .i64 0)), 0, true⟩] 0)
   (.block 0 (.loop (.seq (.reg [⟨(some (.i (.i .h))), none, .bin .lss (.s (.o (.i .h))) (.c (.int .i64 8)), 0, true⟩] 0)
   (.seq (.cond (.s (.i (.i .h)))
   .skip
   (.exit 0))
   (.seq (.block 1 (.seq (.reg [⟨(some (.o (.o (.o .h)))), none, .mov (.s (.o (.i .h))), 0, true⟩,
    ⟨(some (.i (.o .h))), none, .mov (.s (.o (.o (.o .h)))), 0, true⟩] 0)
   (.seq (.reg [⟨(some (.i (.o (.o .h)))), none, .lea 0 (.s (.o (.o .h))), 0, false⟩,
    ⟨(some (.o (.i (.o .h)))), none, .load false 1 (.s (.i (.o (.o .h)))), 0, false⟩,
    ⟨(some (.i (.i (.o .h)))), none, .bin .shl (.s (.o (.i (.o .h)))) (.c (.int .u64 8)), 0, false⟩,
    ⟨(some (.o (.o (.i .h)))), none, .mov (.s .h), 0, false⟩,
    ⟨(some (.i (.o (.i .h)))), none, .mov (.s (.i (.o .h))), 0, false⟩,
    ⟨(some (.o (.i (.i .h)))), none, .ixS 1 (.s (.o (.o (.i .h)))) (.s (.i (.o (.i .h)))), 0, false⟩,
    ⟨(some (.i (.i (.i .h)))), none, .load false 1 (.s (.o (.i (.i .h)))), 0, false⟩,
    ⟨(some (.o (.o (.o (.o .h))))), none, .conv .u64 (.s (.i (.i (.i .h)))), 0, false⟩,
    ⟨(some (.i (.o (.o (.o .h))))), none, .bin .or (.s (.i (.i (.o .h)))) (.s (.o (.o (.o (.o .h))))), 0, false⟩,
    ⟨(some (.o (.i (.o (.o .h))))), none, .lea 0 (.s (.o (.o .h))), 0, false⟩,
    ⟨none, none, .store 1 (.s (.o (.i (.o (.o .h))))) (.s (.i (.o (.o (.o .h))))), 0, false⟩] 0)
   (.reg [⟨(some (.i (.i (.o (.o .h))))), none, .lea 1 (.s (.o (.o .h))), 0, false⟩,
    ⟨(some (.o (.o (.i (.o .h))))), none, .load false 1 (.s (.i (.i (.o (.o .h))))), 0, false⟩,
    ⟨(some (.i (.o (.i (.o .h))))), none, .bin .shl (.s (.o (.o (.i (.o .h))))) (.c (.int .u64 8)), 0, false⟩,
    ⟨(some (.o (.i (.i (.o .h))))), none, .mov (.s .h), 0, false⟩,
    ⟨(some (.i (.i (.i (.o .h))))), none, .mov (.s (.i (.o .h))), 0, false⟩,
    ⟨(some (.o (.o (.o (.i .h))))), none, .bin .add (.c (.int .i64 8)) (.s (.i (.i (.i (.o .h))))), 0, false⟩,
    ⟨(some (.i (.o (.o (.i .h))))), none, .ixS 1 (.s (.o (.i (.i (.o .h))))) (.s (.o (.o (.o (.i .h))))), 0, false⟩,
    ⟨(some (.o (.i (.o (.i .h))))), none, .load false 1 (.s (.i (.o (.o (.i .h))))), 0, false⟩,
    ⟨(some (.i (.i (.o (.i .h))))), none, .conv .u64 (.s (.o (.i (.o (.i .h))))), 0, false⟩,
    ⟨(some (.o (.o (.i (.i .h))))), none, .bin .or (.s (.i (.o (.i (.o .h))))) (.s (.i (.i (.o (.i .h))))), 0, false⟩,
    ⟨(some (.i (.o (.i (.i .h))))), none, .lea 1 (.s (.o (.o .h))), 0, false⟩,
    ⟨none, none, .store 1 (.s (.i (.o (.i (.i .h))))) (.s (.o (.o (.i (.i .h))))), 0, false⟩] 0))))
   (.reg [⟨(some (.o (.i (.i (.i .h))))), none, .bin .add (.s (.o (.i .h))) (.c (.int .i64 1)), 0, true⟩,
    ⟨(some (.o (.i .h))), none, .mov (.s (.o (.i (.i (.i .h))))), 0, true⟩] 0)))))))
   (.seq (.reg [⟨(some (.i (.i (.i (.i .h))))), none, .load true 2 (.s (.o (.o .h))), 0, true⟩,
    ⟨none, none, .store 2 (.s (.i .h)) (.s (.i (.i (.i (.i .h))))), 0, true⟩] 0)
   .ret)))) }

/-- halberd/gcm.newSum -/
noncomputable def d99 : Go.AE.Fd := { np := 1, res := [.tmp (.i .h)], code :=
   (.seq (.reg [⟨(some (.o .h)), none, .box (.s .h), 0, true⟩,
    ⟨(some (.i .h)), none, .mov (.c .nilp), 0, true⟩] 0)
   (.seq (.reg [⟨(some (.o (.i (.o .h)))), none, .build [(.int .u64 0), (.int .u64 0), (.int .u64 0), (.int .u64 0), (.int .u64 0), (.int .u64 0), (.int .u64 0), (.int .u64 0), (.int .u64 0), (.int .u64 0), (.int .u64 0), (.int .u64 0), (.int .u64 0), (.int .u64 0), (.int .u64 0), (.int .u64 0), (.int .u64 0), (.int .u64 0), (.int .u64 0), (.int .u64 0), (.int .u64 0), (.int .u64 0), (.int .u64 0), (.int .u64 0), (.int .u64 0), (.int .u64 0), (.int .u64 0), (.int .u64 0), (.int .u64 0), (.int .u64 0), (.int .u64 0), (.int .u64 0), (.int .u64 0), (.int .u64 0), (.int .u64 0), (.int .u64 0), (.int .u64 0), (.int .u64 0), (.int .u64 0), (.int .u64 0), (.int .u64 0), (.int .u64 0), (.int .u64 0), (.int .u64 0), (.int .u64 0), (.int .u64 0), (.int .u64 0), (.int .u64 0), (.int .u64 0), (.int .u64 0)] [], 0, true⟩,
    ⟨(some (.i (.i (.o .h)))), none, .box (.s (.o (.i (.o .h)))), 0, true⟩,
    ⟨(some (.o (.o .h))), none, .mov (.s (.i (.i (.o .h)))), 0, true⟩] 0)
   (.seq (.seq (.reg [⟨(some (.o (.o (.i .h)))), none, .load true 2 (.s (.o .h)), 0, false⟩,
    ⟨(some (.o (.i .h))), none, .alloc [(.int .u64 0), (.int .u64 0)], 0, false⟩,
    ⟨(some (.i (.o .h))), none, .mov (.c (.int .i64 8)), 0, false⟩,
    ⟨none, none, .store 2 (.s (.o (.i .h))) (.s (.o (.o (.i .h)))), 0, false⟩] 1)
   (.block 0 (.loop (.seq (.seq (.reg [⟨(some (.i (.o (.i .h)))), none, .mov (.s (.i (.o .h))), 0, true⟩,
    ⟨(some (.o (.i (.i .h)))), none, .bin .gtr (.s (.i (.o (.i .h)))) (.c (.int .i64 0)), 0, true⟩] 0)
   (.cond (.s (.o (.i (.i .h))))
   .skip
   (.exit 0)))
   (.seq (.block 1 (.seq (.reg [⟨(some (.i (.i (.o (.o .h))))), none, .mov (.c (.int .i64 0)), 0, true⟩] 0)
   (.block 2 (.loop (.seq (.reg [⟨(some (.o (.o (.i (.o .h))))), none, .bin .lss (.s (.i (.i (.o (.o .h))))) (.c (.int .i64 16)), 0, true⟩] 0)
   (.seq (.cond (.s (.o (.o (.i (.o .h)))))
   .skip
   (.exit 2))
   (.seq (.block 3 (.seq (.reg [⟨(some (.i (.o (.i (.o .h))))), none, .mov (.s (.i (.i (.o (.o .h))))), 0, true⟩,
    ⟨(some (.i (.i .h))), none, .mov (.s (.i (.o (.i (.o .h))))), 0, true⟩] 0)
   (.seq (.reg [⟨(some (.o (.i (.i (.o .h))))), none, .mov (.s (.i (.i .h))), 0, true⟩,
    ⟨(some (.i (.i (.i (.o .h))))), none, .mov (.s (.i (.o .h))), 0, true⟩,
    ⟨(some (.o (.o (.o (.i .h))))), none, .bin .and (.s (.o (.i (.i (.o .h))))) (.s (.i (.i (.i (.o .h))))), 0, true⟩,
    ⟨(some (.i (.o (.o (.i .h))))), none, .bin .neq (.s (.o (.o (.o (.i .h))))) (.c (.int .i64 0)), 0, true⟩] 0)
   (.cond (.s (.i (.o (.o (.i .h)))))
   (.seq (.reg [⟨(some (.o (.i (.o (.i .h))))), none, .mov (.s (.o (.o .h))), 0, false⟩,
    ⟨(some (.i (.i (.o (.i .h))))), none, .mov (.s (.i (.i .h))), 0, false⟩,
    ⟨(some (.o (.o (.i (.i .h))))), none, .nilc (.s (.o (.i (.o (.i .h))))), 0, false⟩,
    ⟨(some (.i (.o (.i (.i .h))))), none, .lea 0 (.s (.o (.o (.i (.i .h))))), 0, false⟩,
    ⟨(some (.o (.i (.i (.i .h))))), none, .ixA 16 2 (.s (.i (.o (.i (.i .h))))) (.s (.i (.i (.o (.i .h))))), 0, false⟩,
    ⟨(some (.i (.i (.i (.i .h))))), none, .lea 0 (.s (.o (.i (.i (.i .h))))), 0, false⟩,
    ⟨(some (.o (.o (.o (.o (.o .h)))))), none, .load false 1 (.s (.i (.i (.i (.i .h))))), 0, false⟩,
    ⟨(some (.i (.o (.o (.o (.o .h)))))), none, .lea 0 (.s (.o (.i .h))), 0, false⟩,
    ⟨(some (.o (.i (.o (.o (.o .h)))))), none, .load false 1 (.s (.i (.o (.o (.o (.o .h)))))), 0, false⟩,
    ⟨(some (.i (.i (.o (.o (.o .h)))))), none, .bin .xor (.s (.o (.o (.o (.o (.o .h)))))) (.s (.o (.i (.o (.o (.o .h)))))), 0, false⟩,
    ⟨(some (.o (.o (.i (.o (.o .h)))))), none, .nilc (.s (.o (.i (.o (.i .h))))), 0, false⟩,
    ⟨(some (.i (.o (.i (.o (.o .h)))))), none, .lea 0 (.s (.o (.o (.i (.o (.o .h)))))), 0, false⟩,
    ⟨(some (.o (.i (.i (.o (.o .h)))))), none, .ixA 16 2 (.s (.i (.o (.i (.o (.o .h)))))) (.s (.i (.i (.o (.i .h))))), 0, false⟩,
    ⟨(some (.i (.i (.i (.o (.o .h)))))), none, .lea 0 (.s (.o (.i (.i (.o (.o .h)))))), 0, false⟩,
    ⟨none, none, .store 1 (.s (.i (.i (.i (.o (.o .h)))))) (.s (.i (.i (.o (.o (.o .h)))))), 0, false⟩] 0)
   (.reg [⟨(some (.o (.o (.o (.i (.o .h)))))), none, .mov (.s (.o (.o .h))), 0, false⟩,
    ⟨(some (.i (.o (.o (.i (.o .h)))))), none, .mov (.s (.i (.i .h))), 0, false⟩,
    ⟨(some (.o (.i (.o (.i (.o .h)))))), none, .nilc (.s (.o (.o (.o (.i (.o .h)))))), 0, false⟩,
    ⟨(some (.i (.i (.o (.i (.o .h)))))), none, .lea 0 (.s (.o (.i (.o (.i (.o .h)))))), 0, false⟩,
    ⟨(some (.o (.o (.i (.i (.o .h)))))), none, .ixA 16 2 (.s (.i (.i (.o (.i (.o .h)))))) (.s (.i (.o (.o (.i (.o .h)))))), 0, false⟩,
    ⟨(some (.i (.o (.i (.i (.o .h)))))), none, .lea 1 (.s (.o (.o (.i (.i (.o .h)))))), 0, false⟩,
    ⟨(some (.o (.i (.i (.i (.o .h)))))), none, .load false 1 (.s (.i (.o (.i (.i (.o .h)))))), 0, false⟩,
    ⟨(some (.i (.i (.i (.i (.o .h)))))), none, .lea 1 (.s (.o (.i .h))), 0, false⟩,
    ⟨(some (.o (.o (.o (.o (.i .h)))))), none, .load false 1 (.s (.i (.i (.i (.i (.o .h)))))), 0, false⟩,
    ⟨(some (.i (.o (.o (.o (.i .h)))))), none, .bin .xor (.s (.o (.i (.i (.i (.o .h)))))) (.s (.o (.o (.o (.o (.i .h)))))), 0, false⟩,
    ⟨(some (.o (.i (.o (.o (.i .h)))))), none, .nilc (.s (.o (.o (.o (.i (.o .h)))))), 0, false⟩,
    ⟨(some (.i (.i (.o (.o (.i .h)))))), none, .lea 0 (.s (.o (.i (.o (.o (.i .h)))))), 0, false⟩,
    ⟨(some (.o (.o (.i (.o (.i .h)))))), none, .ixA 16 2 (.s (.i (.i (.o (.o (.i .h)))))) (.s (.i (.o (.o (.i (.o .h)))))), 0, false⟩,
    ⟨(some (.i (.o (.i (.o (.i .h)))))), none, .lea 1 (.s (.o (.o (.i (.o (.i .h)))))), 0, false⟩,
    ⟨none, none, .store 1 (.s (.i (.o (.i (.o (.i .h)))))) (.s (.i (.o (.o (.o (.i .h)))))), 0, false⟩] 0))
   .skip))))
   (.reg [⟨(some (.o (.i (.i (.o (.i .h)))))), none, .bin .add (.s (.i (.i (.o (.o .h))))) (.c (.int .i64 1)), 0, true⟩,
    ⟨(some (.i (.i (.o (.o .h))))), none, .mov (.s (.o (.i (.i (.o (.i .h)))))), 0, true⟩] 0))))))))
   (.seq (.seq (.reg [⟨(some (.i (.i (.i (.o (.i .h)))))), none, .load true 2 (.s (.o (.i .h))), 0, true⟩] 0)
   (.reg [⟨(some (.o (.i .h))), none, .alloc [(.int .u64 0), (.int .u64 0)], 0, true⟩,
    ⟨none, none, .store 2 (.s (.o (.i .h))) (.s (.i (.i (.i (.o (.i .h)))))), 0, true⟩] 0))
   (.reg [⟨(some (.i (.i (.i .h)))), none, .mov (.s (.i (.o .h))), 0, true⟩,
    ⟨(some (.o (.o (.o (.o .h))))), none, .bin .quo (.s (.i (.i (.i .h)))) (.c (.int .i64 2)), 0, true⟩,
    ⟨(some (.i (.o (.o (.o .h))))), none, .load true 2 (.s (.o (.i .h))), 0, true⟩,
    ⟨(some (.o (.i (.o (.o .h))))), none, .call (.o (.i (.i (.i (.o (.i .h)))))) [(.s (.i (.o (.o (.o .h)))))], 0, true⟩,
    ⟨(some (.i (.o .h))), none, .mov (.s (.o (.o (.o (.o .h))))), 0, true⟩,
    ⟨none, none, .store 2 (.s (.o (.i .h))) (.s (.o (.i (.o (.o .h))))), 0, true⟩] 0)))))))
   (.seq (.seq (.reg [⟨(some (.o (.o (.o (.i (.i .h)))))), none, .mov (.c (.int .i64 0)), 0, true⟩] 0)
   (.block 4 (.loop (.seq (.reg [⟨(some (.i (.o (.o (.i (.i .h)))))), none, .bin .lss (.s (.o (.o (.o (.i (.i .h)))))) (.c (.int .i64 16)), 0, true⟩] 0)
   (.seq (.cond (.s (.i (.o (.o (.i (.i .h))))))
   .skip
   (.exit 4))
   (.seq (.block 5 (.seq (.reg [⟨(some (.o (.i (.o (.i (.i .h)))))), none, .mov (.s (.o (.o (.o (.i (.i .h)))))), 0, true⟩,
    ⟨(some (.o (.o (.o .h)))), none, .mov (.s (.o (.i (.o (.i (.i .h)))))), 0, true⟩] 0)
   (.seq (.reg [⟨(some (.i (.i (.o (.i (.i .h)))))), none, .mov (.s (.o (.o (.o .h)))), 0, true⟩,
    ⟨(some (.o (.o (.i (.i (.i .h)))))), none, .conv .u64 (.s (.i (.i (.o (.i (.i .h)))))), 0, true⟩,
    ⟨(some (.i (.o (.i (.i (.i .h)))))), none, .build [(.int .u64 0), (.int .u64 0)] [(0, 1, (.c (.int .u64 0))), (1, 1, (.s (.o (.o (.i (.i (.i .h)))))))], 0, true⟩,
    ⟨(some (.i (.o (.o .h)))), none, .alloc [(.int .u64 0), (.int .u64 0)], 0, true⟩,
    ⟨none, none, .store 2 (.s (.i (.o (.o .h)))) (.s (.i (.o (.i (.i (.i .h)))))), 0, true⟩] 0)
   (.seq (.seq (.reg [⟨(some (.o (.i (.i (.i (.i .h)))))), none, .mov (.c (.int .i64 0)), 0, true⟩] 0)
   (.block 6 (.loop (.seq (.reg [⟨(some (.i (.i (.i (.i (.i .h)))))), none, .bin .lss (.s (.o (.i (.i (.i (.i .h)))))) (.c (.int .i64 4)), 0, true⟩] 0)
   (.seq (.cond (.s (.i (.i (.i (.i (.i .h))))))
   .skip
   (.exit 6))
   (.seq (.block 7 (.reg [⟨(some (.o (.o (.o (.o (.o (.o .h))))))), none, .load true 2 (.s (.i (.o (.o .h)))), 0, true⟩,
    ⟨(some (.i (.o (.o (.o (.o (.o .h))))))), none, .call (.o (.i (.i (.i (.o (.i .h)))))) [(.s (.o (.o (.o (.o (.o (.o .h)))))))], 0, true⟩,
    ⟨none, none, .store 2 (.s (.i (.o (.o .h)))) (.s (.i (.o (.o (.o (.o (.o .h))))))), 0, true⟩] 0))
   (.reg [⟨(some (.o (.i (.o (.o (.o (.o .h))))))), none, .bin .add (.s (.o (.i (.i (.i (.i .h)))))) (.c (.int .i64 1)), 0, true⟩,
    ⟨(some (.o (.i (.i (.i (.i .h)))))), none, .mov (.s (.o (.i (.o (.o (.o (.o .h))))))), 0, true⟩] 0)))))))
   (.reg [⟨(some (.i (.i (.o (.o (.o (.o .h))))))), none, .mov (.s (.o (.o .h))), 0, false⟩,
    ⟨(some (.o (.o (.i (.o (.o (.o .h))))))), none, .mov (.s (.o (.o (.o .h)))), 0, false⟩,
    ⟨(some (.i (.o (.i (.o (.o (.o .h))))))), none, .lea 0 (.s (.i (.o (.o .h)))), 0, false⟩,
    ⟨(some (.o (.i (.i (.o (.o (.o .h))))))), none, .load false 1 (.s (.i (.o (.i (.o (.o (.o .h))))))), 0, false⟩,
    ⟨(some (.i (.i (.i (.o (.o (.o .h))))))), none, .nilc (.s (.i (.i (.o (.o (.o (.o .h))))))), 0, false⟩,
    ⟨(some (.o (.o (.o (.i (.o (.o .h))))))), none, .lea 32 (.s (.i (.i (.i (.o (.o (.o .h))))))), 0, false⟩,
    ⟨(some (.i (.o (.o (.i (.o (.o .h))))))), none, .ixA 16 1 (.s (.o (.o (.o (.i (.o (.o .h))))))) (.s (.o (.o (.i (.o (.o (.o .h))))))), 0, false⟩,
    ⟨none, none, .store 1 (.s (.i (.o (.o (.i (.o (.o .h))))))) (.s (.o (.i (.i (.o (.o (.o .h))))))), 0, false⟩] 0)))))
   (.reg [⟨(some (.o (.i (.o (.i (.o (.o .h))))))), none, .bin .add (.s (.o (.o (.o (.i (.i .h)))))) (.c (.int .i64 1)), 0, true⟩,
    ⟨(some (.o (.o (.o (.i (.i .h)))))), none, .mov (.s (.o (.i (.o (.i (.o (.o .h))))))), 0, true⟩] 0)))))))
   (.seq (.reg [⟨(some (.i (.i (.o (.i (.o (.o .h))))))), none, .mov (.s (.o (.o .h))), 0, true⟩,
    ⟨(some (.i .h)), none, .mov (.s (.i (.i (.o (.i (.o (.o .h))))))), 0, true⟩] 0)
   .ret))))) }

/-- (*halberd/gcm.sum).all -/
noncomputable def d100 : Go.AE.Fd := { np := 2, res := [], code :=
   (.seq (.block 0 (.loop (.seq (.seq (.reg [⟨(some (.o (.i .h))), none, .mov (.s (.o .h)), 0, true⟩,
    ⟨(some (.i (.i .h))), none, .len (.s (.o (.i .h))), 0, true⟩,
    ⟨(some (.o (.o (.o .h)))), none, .bin .geq (.s (.i (.i .h))) (.c (.int .i64 16)), 0, true⟩] 0)
   (.cond (.s (.o (.o (.o .h))))
   .skip
   (.exit 0)))
   (.seq (.block 1 (.reg [⟨(some (.i (.i (.o .h)))), none, .mov (.s .h), 0, true⟩,
    ⟨(some (.o (.o (.i .h)))), none, .mov (.s (.o .h)), 0, true⟩,
    ⟨(some (.i (.o (.i .h)))), none, .call (.i (.i (.i (.o (.o (.i .h)))))) [(.s (.i (.i (.o .h)))), (.s (.o (.o (.i .h))))], 0, true⟩] 0))
   (.reg [⟨(some (.i (.o (.o .h)))), none, .mov (.s (.o .h)), 0, true⟩,
    ⟨(some (.o (.i (.o .h)))), none, .slSl 1 (.s (.i (.o (.o .h)))) (some (.c (.int .i64 16))) none, 0, true⟩,
    ⟨(some (.o .h)), none, .mov (.s (.o (.i (.o .h)))), 0, true⟩] 0)))))
   (.seq (.reg [⟨(some (.o (.i (.i .h)))), none, .mov (.s (.o .h)), 0, true⟩,
    ⟨(some (.i (.i (.i .h)))), none, .len (.s (.o (.i (.i .h)))), 0, true⟩,
    ⟨(some (.o (.o (.o (.o .h))))), none, .bin .gtr (.s (.i (.i (.i .h)))) (.c (.int .i64 0)), 0, true⟩] 0)
   (.cond (.s (.o (.o (.o (.o .h)))))
   (.seq (.reg [⟨(some (.i (.o .h))), none, .alloc [(.int .u8 0), (.int .u8 0), (.int .u8 0), (.int .u8 0), (.int .u8 0), (.int .u8 0), (.int .u8 0), (.int .u8 0), (.int .u8 0), (.int .u8 0), (.int .u8 0), (.int .u8 0), (.int .u8 0), (.int .u8 0), (.int .u8 0), (.int .u8 0)], 0, true⟩] 0)
   (.seq (.reg [⟨(some (.i (.o (.o (.o .h))))), none, .slArr 16 1 (.s (.i (.o .h))) none none, 0, true⟩,
    ⟨(some (.o (.i (.o (.o .h))))), none, .mov (.s (.o .h)), 0, true⟩,
    ⟨(some (.i (.i (.o (.o .h))))), none, .cpy 1 (.s (.i (.o (.o (.o .h))))) (.s (.o (.i (.o (.o .h))))), 0, true⟩] 0)
   (.reg [⟨(some (.o (.o (.i (.o .h))))), none, .mov (.s .h), 0, true⟩,
    ⟨(some (.i (.o (.i (.o .h))))), none, .slArr 16 1 (.s (.i (.o .h))) none none, 0, true⟩,
    ⟨(some (.o (.i (.i (.o .h))))), none, .call (.i (.i (.i (.o (.o (.i .h)))))) [(.s (.o (.o (.i (.o .h))))), (.s (.i (.o (.i (.o .h)))))], 0, true⟩] 0)))
   .skip))) }

/-- (halberd/gcm.element).bytes -/
noncomputable def d101 : Go.AE.Fd := { np := 1, res := [.cell (.i .h) true 16], code :=
   (.seq (.reg [⟨(some (.o .h)), none, .box (.s .h), 0, true⟩,
    ⟨(some (.i .h)), none, .alloc [(.int .u8 0), (.int .u8 0), (.int .u8 0), (.int .u8 0), (.int .u8 0), (.int .u8 0), (.int .u8 0), (.int .u8 0), (.int .u8 0), (.int .u8 0), (.int .u8 0), (.int .u8 0), (.int .u8 0), (.int .u8 0), (.int .u8 0), (.int .u8 0)], 0, true⟩] 0)
   (.seq (.reg [⟨(some (.o (.o .h))), none, .alloc [(.int .u8 0), (.int .u8 0), (.int .u8 0), (.int .u8 0), (.int .u8 0), (.int .u8 0), (.int .u8 0), (.int .u8 0), (.int .u8 0), (.int .u8 0), (.int .u8 0), (.int .u8 0), (.int .u8 0), (.int .u8 0), (.int .u8 0), (.int .u8 0)], 0, true⟩] 0)
   (.seq (.seq (.reg [⟨(some (.o (.i .h))), none, .mov (.c (.int .i64 0)), 0, true⟩] 0)
   (.block 0 (.loop (.seq (.reg [⟨(some (.i (.i .h))), none, .bin .lss (.s (.o (.i .h))) (.c (.int .i64 8)), 0, true⟩] 0)
   (.seq (.cond (.s (.i (.i .h)))
   .skip
   (.exit 0))
   (.seq (.block 1 (.seq (.reg [⟨(some (.o (.o (.o .h)))), none, .mov (.s (.o (.i .h))), 0, true⟩,
    ⟨(some (.i (.o .h))), none, .mov (.s (.o (.o (.o .h)))), 0, true⟩] 0)
   (.reg [⟨(some (.i (.o (.o .h)))), none, .mov (.s (.i (.o .h))), 0, false⟩,
    ⟨(some (.o (.i (.o .h)))), none, .mov (.s (.i (.o .h))), 0, false⟩,
    ⟨(some (.i (.i (.o .h)))), none, .bin .add (.c (.int .i64 8)) (.s (.o (.i (.o .h)))), 0, false⟩,
    ⟨(some (.o (.o (.i .h)))), none, .lea 0 (.s (.o .h)), 0, false⟩,
    ⟨(some (.i (.o (.i .h)))), none, .load false 1 (.s (.o (.o (.i .h)))), 0, false⟩,
    ⟨(some (.o (.i (.i .h)))), none, .mov (.s (.i (.o .h))), 0, false⟩,
    ⟨(some (.i (.i (.i .h)))), none, .bin .mul (.c (.int .i64 8)) (.s (.o (.i (.i .h)))), 0, false⟩,
    ⟨(some (.o (.o (.o (.o .h))))), none, .bin .sub (.c (.int .i64 56)) (.s (.i (.i (.i .h)))), 0, false⟩,
    ⟨(some (.i (.o (.o (.o .h))))), none, .bin .shr (.s (.i (.o (.i .h)))) (.s (.o (.o (.o (.o .h))))), 0, false⟩,
    ⟨(some (.o (.i (.o (.o .h))))), none, .conv .u8 (.s (.i (.o (.o (.o .h))))), 0, false⟩,
    ⟨(some (.i (.i (.o (.o .h))))), none, .lea 1 (.s (.o .h)), 0, false⟩,
    ⟨(some (.o (.o (.i (.o .h))))), none, .load false 1 (.s (.i (.i (.o (.o .h))))), 0, false⟩,
    ⟨(some (.i (.o (.i (.o .h))))), none, .mov (.s (.i (.o .h))), 0, false⟩,
    ⟨(some (.o (.i (.i (.o .h))))), none, .bin .mul (.c (.int .i64 8)) (.s (.i (.o (.i (.o .h))))), 0, false⟩,
    ⟨(some (.i (.i (.i (.o .h))))), none, .bin .sub (.c (.int .i64 56)) (.s (.o (.i (.i (.o .h))))), 0, false⟩,
    ⟨(some (.o (.o (.o (.i .h))))), none, .bin .shr (.s (.o (.o (.i (.o .h))))) (.s (.i (.i (.i (.o .h))))), 0, false⟩,
    ⟨(some (.i (.o (.o (.i .h))))), none, .conv .u8 (.s (.o (.o (.o (.i .h))))), 0, false⟩,
    ⟨(some (.o (.i (.o (.i .h))))), none, .ixA 16 1 (.s (.o (.o .h))) (.s (.i (.o (.o .h)))), 0, false⟩,
    ⟨none, none, .store 1 (.s (.o (.i (.o (.i .h))))) (.s (.o (.i (.o (.o .h))))), 0, false⟩,
    ⟨(some (.i (.i (.o (.i .h))))), none, .ixA 16 1 (.s (.o (.o .h))) (.s (.i (.i (.o .h)))), 0, false⟩,
    ⟨none, none, .store 1 (.s (.i (.i (.o (.i .h))))) (.s (.i (.o (.o (.i .h))))), 0, false⟩] 0)))
   (.reg [⟨(some (.o (.o (.i (.i .h))))), none, .bin .add (.s (.o (.i .h))) (.c (.int .i64 1)), 0, true⟩,
    ⟨(some (.o (.i .h))), none, .mov (.s (.o (.o (.i (.i .h))))), 0, true⟩] 0)))))))
   (.seq (.reg [⟨(some (.i (.o (.i (.i .h))))), none, .load true 16 (.s (.o (.o .h))), 0, true⟩,
    ⟨none, none, .store 16 (.s (.i .h)) (.s (.i (.o (.i (.i .h))))), 0, true⟩] 0)
   .ret)))) }

/-- (*halberd/gcm.sum).add -/
noncomputable def d102 : Go.AE.Fd := { np := 2, res := [], code :=
   (.seq (.reg [⟨(some (.i (.o (.o .h)))), none, .mov (.s (.o .h)), 0, true⟩,
    ⟨(some (.o (.i (.o .h)))), none, .call (.i (.i (.o (.o (.o (.i .h)))))) [(.s (.i (.o (.o .h))))], 0, true⟩,
    ⟨(some (.i (.o .h))), none, .alloc [(.int .u64 0), (.int .u64 0)], 0, true⟩,
    ⟨none, none, .store 2 (.s (.i (.o .h))) (.s (.o (.i (.o .h)))), 0, true⟩] 0)
   (.seq (.reg [⟨(some (.i (.i (.o .h)))), none, .lea 0 (.s (.i (.o .h))), 0, false⟩,
    ⟨(some (.o (.o (.i .h)))), none, .load false 1 (.s (.i (.i (.o .h)))), 0, false⟩,
    ⟨(some (.i (.o (.i .h)))), none, .mov (.s .h), 0, false⟩,
    ⟨(some (.o (.i (.i .h)))), none, .nilc (.s (.i (.o (.i .h)))), 0, false⟩,
    ⟨(some (.i (.i (.i .h)))), none, .lea 48 (.s (.o (.i (.i .h)))), 0, false⟩,
    ⟨(some (.o (.o (.o (.o .h))))), none, .lea 0 (.s (.i (.i (.i .h)))), 0, false⟩,
    ⟨(some (.i (.o (.o (.o .h))))), none, .load false 1 (.s (.o (.o (.o (.o .h))))), 0, false⟩,
    ⟨(some (.o (.i (.o (.o .h))))), none, .bin .xor (.s (.o (.o (.i .h)))) (.s (.i (.o (.o (.o .h))))), 0, false⟩,
    ⟨(some (.i (.i (.o (.o .h))))), none, .lea 0 (.s (.i (.o .h))), 0, false⟩,
    ⟨none, none, .store 1 (.s (.i (.i (.o (.o .h))))) (.s (.o (.i (.o (.o .h))))), 0, false⟩] 0)
   (.seq (.reg [⟨(some (.o (.o (.i (.o .h))))), none, .lea 1 (.s (.i (.o .h))), 0, false⟩,
    ⟨(some (.i (.o (.i (.o .h))))), none, .load false 1 (.s (.o (.o (.i (.o .h))))), 0, false⟩,
    ⟨(some (.o (.i (.i (.o .h))))), none, .mov (.s .h), 0, false⟩,
    ⟨(some (.i (.i (.i (.o .h))))), none, .nilc (.s (.o (.i (.i (.o .h))))), 0, false⟩,
    ⟨(some (.o (.o (.o (.i .h))))), none, .lea 48 (.s (.i (.i (.i (.o .h))))), 0, false⟩,
    ⟨(some (.i (.o (.o (.i .h))))), none, .lea 1 (.s (.o (.o (.o (.i .h))))), 0, false⟩,
    ⟨(some (.o (.i (.o (.i .h))))), none, .load false 1 (.s (.i (.o (.o (.i .h))))), 0, false⟩,
    ⟨(some (.i (.i (.o (.i .h))))), none, .bin .xor (.s (.i (.o (.i (.o .h))))) (.s (.o (.i (.o (.i .h))))), 0, false⟩,
    ⟨(some (.o (.o (.i (.i .h))))), none, .lea 1 (.s (.i (.o .h))), 0, false⟩,
    ⟨none, none, .store 1 (.s (.o (.o (.i (.i .h))))) (.s (.i (.i (.o (.i .h))))), 0, false⟩] 0)
   (.seq (.reg [⟨(some (.o (.i .h))), none, .alloc [(.int .u64 0), (.int .u64 0)], 0, true⟩] 0)
   (.seq (.seq (.reg [⟨(some (.i (.o (.i (.i .h))))), none, .mov (.c (.int .i64 0)), 0, true⟩] 0)
   (.block 0 (.loop (.seq (.reg [⟨(some (.o (.i (.i (.i .h))))), none, .bin .lss (.s (.i (.o (.i (.i .h))))) (.c (.int .i64 32)), 0, true⟩] 0)
   (.seq (.cond (.s (.o (.i (.i (.i .h)))))
   .skip
   (.exit 0))
   (.seq (.block 1 (.seq (.reg [⟨(some (.i (.i (.i (.i .h))))), none, .mov (.s (.i (.o (.i (.i .h))))), 0, true⟩,
    ⟨(some (.i (.i .h))), none, .mov (.s (.i (.i (.i (.i .h))))), 0, true⟩] 0)
   (.seq (.reg [⟨(some (.o (.o (.o (.o (.o .h)))))), none, .lea 1 (.s (.i (.o .h))), 0, true⟩,
    ⟨(some (.i (.o (.o (.o (.o .h)))))), none, .load false 1 (.s (.o (.o (.o (.o (.o .h)))))), 0, true⟩,
    ⟨(some (.o (.i (.o (.o (.o .h)))))), none, .mov (.s (.i (.i .h))), 0, true⟩,
    ⟨(some (.i (.i (.o (.o (.o .h)))))), none, .bin .rem (.s (.o (.i (.o (.o (.o .h)))))) (.c (.int .i64 16)), 0, true⟩,
    ⟨(some (.o (.o (.i (.o (.o .h)))))), none, .bin .mul (.c (.int .i64 4)) (.s (.i (.i (.o (.o (.o .h)))))), 0, true⟩,
    ⟨(some (.i (.o (.i (.o (.o .h)))))), none, .bin .shr (.s (.i (.o (.o (.o (.o .h)))))) (.s (.o (.o (.i (.o (.o .h)))))), 0, true⟩,
    ⟨(some (.o (.i (.i (.o (.o .h)))))), none, .bin .and (.s (.i (.o (.i (.o (.o .h)))))) (.c (.int .u64 15)), 0, true⟩,
    ⟨(some (.o (.o (.o .h)))), none, .mov (.s (.o (.i (.i (.o (.o .h)))))), 0, true⟩] 0)
   (.seq (.seq (.reg [⟨(some (.i (.i (.i (.o (.o .h)))))), none, .mov (.s (.i (.i .h))), 0, true⟩,
    ⟨(some (.o (.o (.o (.i (.o .h)))))), none, .bin .geq (.s (.i (.i (.i (.o (.o .h)))))) (.c (.int .i64 16)), 0, true⟩] 0)
   (.cond (.s (.o (.o (.o (.i (.o .h))))))
   (.reg [⟨(some (.i (.o (.o (.i (.o .h)))))), none, .lea 0 (.s (.i (.o .h))), 0, true⟩,
    ⟨(some (.o (.i (.o (.i (.o .h)))))), none, .load false 1 (.s (.i (.o (.o (.i (.o .h)))))), 0, true⟩,
    ⟨(some (.i (.i (.o (.i (.o .h)))))), none, .mov (.s (.i (.i .h))), 0, true⟩,
    ⟨(some (.o (.o (.i (.i (.o .h)))))), none, .bin .rem (.s (.i (.i (.o (.i (.o .h)))))) (.c (.int .i64 16)), 0, true⟩,
    ⟨(some (.i (.o (.i (.i (.o .h)))))), none, .bin .mul (.c (.int .i64 4)) (.s (.o (.o (.i (.i (.o .h)))))), 0, true⟩,
    ⟨(some (.o (.i (.i (.i (.o .h)))))), none, .bin .shr (.s (.o (.i (.o (.i (.o .h)))))) (.s (.i (.o (.i (.i (.o .h)))))), 0, true⟩,
    ⟨(some (.i (.i (.i (.i (.o .h)))))), none, .bin .and (.s (.o (.i (.i (.i (.o .h)))))) (.c (.int .u64 15)), 0, true⟩,
    ⟨(some (.o (.o (.o .h)))), none, .mov (.s (.i (.i (.i (.i (.o .h)))))), 0, true⟩] 0)
   .skip))
   (.seq (.reg [⟨(some (.o (.o (.o (.o (.i .h)))))), none, .lea 0 (.s (.o (.i .h))), 0, false⟩,
    ⟨(some (.i (.o (.o (.o (.i .h)))))), none, .load false 1 (.s (.o (.o (.o (.o (.i .h)))))), 0, false⟩,
    ⟨(some (.o (.i (.o (.o (.i .h)))))), none, .bin .shr (.s (.i (.o (.o (.o (.i .h)))))) (.c (.int .u64 4)), 0, false⟩,
    ⟨(some (.i (.i (.o (.o (.i .h)))))), none, .mov (.s .h), 0, false⟩,
    ⟨(some (.o (.o (.i (.o (.i .h)))))), none, .lea 1 (.s (.o (.i .h))), 0, false⟩,
    ⟨(some (.i (.o (.i (.o (.i .h)))))), none, .load false 1 (.s (.o (.o (.i (.o (.i .h)))))), 0, false⟩,
    ⟨(some (.o (.i (.i (.o (.i .h)))))), none, .bin .and (.s (.i (.o (.i (.o (.i .h)))))) (.c (.int .u64 15)), 0, false⟩,
    ⟨(some (.i (.i (.i (.o (.i .h)))))), none, .nilc (.s (.i (.i (.o (.o (.i .h)))))), 0, false⟩,
    ⟨(some (.o (.o (.o (.i (.i .h)))))), none, .lea 32 (.s (.i (.i (.i (.o (.i .h)))))), 0, false⟩,
    ⟨(some (.i (.o (.o (.i (.i .h)))))), none, .ixA 16 1 (.s (.o (.o (.o (.i (.i .h)))))) (.s (.o (.i (.i (.o (.i .h)))))), 0, false⟩,
    ⟨(some (.o (.i (.o (.i (.i .h)))))), none, .load false 1 (.s (.i (.o (.o (.i (.i .h)))))), 0, false⟩,
    ⟨(some (.i (.i (.o (.i (.i .h)))))), none, .bin .xor (.s (.o (.i (.o (.o (.i .h)))))) (.s (.o (.i (.o (.i (.i .h)))))), 0, false⟩,
    ⟨(some (.o (.o (.i (.i (.i .h)))))), none, .lea 1 (.s (.o (.i .h))), 0, false⟩,
    ⟨(some (.i (.o (.i (.i (.i .h)))))), none, .load false 1 (.s (.o (.o (.i (.i (.i .h)))))), 0, false⟩,
    ⟨(some (.o (.i (.i (.i (.i .h)))))), none, .bin .shr (.s (.i (.o (.i (.i (.i .h)))))) (.c (.int .u64 4)), 0, false⟩,
    ⟨(some (.i (.i (.i (.i (.i .h)))))), none, .lea 0 (.s (.o (.i .h))), 0, false⟩,
    ⟨(some (.o (.o (.o (.o (.o (.o .h))))))), none, .load false 1 (.s (.i (.i (.i (.i (.i .h)))))), 0, false⟩,
    ⟨(some (.i (.o (.o (.o (.o (.o .h))))))), none, .bin .shl (.s (.o (.o (.o (.o (.o (.o .h))))))) (.c (.int .u64 60)), 0, false⟩,
    ⟨(some (.o (.i (.o (.o (.o (.o .h))))))), none, .bin .or (.s (.o (.i (.i (.i (.i .h)))))) (.s (.i (.o (.o (.o (.o (.o .h))))))), 0, false⟩,
    ⟨(some (.i (.i (.o (.o (.o (.o .h))))))), none, .build [(.int .u64 0), (.int .u64 0)] [(0, 1, (.s (.i (.i (.o (.i (.i .h))))))), (1, 1, (.s (.o (.i (.o (.o (.o (.o .h))))))))], 0, false⟩,
    ⟨none, none, .store 2 (.s (.o (.i .h))) (.s (.i (.i (.o (.o (.o (.o .h))))))), 0, false⟩] 0)
   (.seq (.reg [⟨(some (.o (.o (.i (.o (.o (.o .h))))))), none, .lea 0 (.s (.o (.i .h))), 0, false⟩,
    ⟨(some (.i (.o (.i (.o (.o (.o .h))))))), none, .load false 1 (.s (.o (.o (.i (.o (.o (.o .h))))))), 0, false⟩,
    ⟨(some (.o (.i (.i (.o (.o (.o .h))))))), none, .mov (.s .h), 0, false⟩,
    ⟨(some (.i (.i (.i (.o (.o (.o .h))))))), none, .mov (.s (.o (.o (.o .h)))), 0, false⟩,
    ⟨(some (.o (.o (.o (.i (.o (.o .h))))))), none, .nilc (.s (.o (.i (.i (.o (.o (.o .h))))))), 0, false⟩,
    ⟨(some (.i (.o (.o (.i (.o (.o .h))))))), none, .lea 0 (.s (.o (.o (.o (.i (.o (.o .h))))))), 0, false⟩,
    ⟨(some (.o (.i (.o (.i (.o (.o .h))))))), none, .ixA 16 2 (.s (.i (.o (.o (.i (.o (.o .h))))))) (.s (.i (.i (.i (.o (.o (.o .h))))))), 0, false⟩,
    ⟨(some (.i (.i (.o (.i (.o (.o .h))))))), none, .lea 0 (.s (.o (.i (.o (.i (.o (.o .h))))))), 0, false⟩,
    ⟨(some (.o (.o (.i (.i (.o (.o .h))))))), none, .load false 1 (.s (.i (.i (.o (.i (.o (.o .h))))))), 0, false⟩,
    ⟨(some (.i (.o (.i (.i (.o (.o .h))))))), none, .bin .xor (.s (.i (.o (.i (.o (.o (.o .h))))))) (.s (.o (.o (.i (.i (.o (.o .h))))))), 0, false⟩,
    ⟨(some (.o (.i (.i (.i (.o (.o .h))))))), none, .lea 0 (.s (.o (.i .h))), 0, false⟩,
    ⟨none, none, .store 1 (.s (.o (.i (.i (.i (.o (.o .h))))))) (.s (.i (.o (.i (.i (.o (.o .h))))))), 0, false⟩] 0)
   (.reg [⟨(some (.i (.i (.i (.i (.o (.o .h))))))), none, .lea 1 (.s (.o (.i .h))), 0, false⟩,
    ⟨(some (.o (.o (.o (.o (.i (.o .h))))))), none, .load false 1 (.s (.i (.i (.i (.i (.o (.o .h))))))), 0, false⟩,
    ⟨(some (.i (.o (.o (.o (.i (.o .h))))))), none, .mov (.s .h), 0, false⟩,
    ⟨(some (.o (.i (.o (.o (.i (.o .h))))))), none, .mov (.s (.o (.o (.o .h)))), 0, false⟩,
    ⟨(some (.i (.i (.o (.o (.i (.o .h))))))), none, .nilc (.s (.i (.o (.o (.o (.i (.o .h))))))), 0, false⟩,
    ⟨(some (.o (.o (.i (.o (.i (.o .h))))))), none, .lea 0 (.s (.i (.i (.o (.o (.i (.o .h))))))), 0, false⟩,
    ⟨(some (.i (.o (.i (.o (.i (.o .h))))))), none, .ixA 16 2 (.s (.o (.o (.i (.o (.i (.o .h))))))) (.s (.o (.i (.o (.o (.i (.o .h))))))), 0, false⟩,
    ⟨(some (.o (.i (.i (.o (.i (.o .h))))))), none, .lea 1 (.s (.i (.o (.i (.o (.i (.o .h))))))), 0, false⟩,
    ⟨(some (.i (.i (.i (.o (.i (.o .h))))))), none, .load false 1 (.s (.o (.i (.i (.o (.i (.o .h))))))), 0, false⟩,
    ⟨(some (.o (.o (.o (.i (.i (.o .h))))))), none, .bin .xor (.s (.o (.o (.o (.o (.i (.o .h))))))) (.s (.i (.i (.i (.o (.i (.o .h))))))), 0, false⟩,
    ⟨(some (.i (.o (.o (.i (.i (.o .h))))))), none, .lea 1 (.s (.o (.i .h))), 0, false⟩,
    ⟨none, none, .store 1 (.s (.i (.o (.o (.i (.i (.o .h))))))) (.s (.o (.o (.o (.i (.i (.o .h))))))), 0, false⟩] 0)))))))
   (.reg [⟨(some (.o (.i (.o (.i (.i (.o .h))))))), none, .bin .add (.s (.i (.o (.i (.i .h))))) (.c (.int .i64 1)), 0, true⟩,
    ⟨(some (.i (.o (.i (.i .h))))), none, .mov (.s (.o (.i (.o (.i (.i (.o .h))))))), 0, true⟩] 0)))))))
   (.reg [⟨(some (.i (.i (.o (.i (.i (.o .h))))))), none, .mov (.s .h), 0, true⟩,
    ⟨(some (.o (.o (.i (.i (.i (.o .h))))))), none, .load true 2 (.s (.o (.i .h))), 0, true⟩,
    ⟨(some (.i (.o (.i (.i (.i (.o .h))))))), none, .nilc (.s (.i (.i (.o (.i (.i (.o .h))))))), 0, true⟩,
    ⟨(some (.o (.i (.i (.i (.i (.o .h))))))), none, .lea 48 (.s (.i (.o (.i (.i (.i (.o .h))))))), 0, true⟩,
    ⟨none, none, .store 2 (.s (.o (.i (.i (.i (.i (.o .h))))))) (.s (.o (.o (.i (.i (.i (.o .h))))))), 0, true⟩] 0)))))) }

/-- halberd/gcm.counter -/
noncomputable def d103 : Go.AE.Fd := { np := 2, res := [.cell (.i (.o .h)) true 16], code :=
   (.seq (.reg [⟨(some (.i (.o .h))), none, .alloc [(.int .u8 0), (.int .u8 0), (.int .u8 0), (.int .u8 0), (.int .u8 0), (.int .u8 0), (.int .u8 0), (.int .u8 0), (.int .u8 0), (.int .u8 0), (.int .u8 0), (.int .u8 0), (.int .u8 0), (.int .u8 0), (.int .u8 0), (.int .u8 0)], 0, true⟩] 0)
   (.seq (.reg [⟨(some (.o (.i .h))), none, .alloc [(.int .u8 0), (.int .u8 0), (.int .u8 0), (.int .u8 0), (.int .u8 0), (.int .u8 0), (.int .u8 0), (.int .u8 0), (.int .u8 0), (.int .u8 0), (.int .u8 0), (.int .u8 0), (.int .u8 0), (.int .u8 0), (.int .u8 0), (.int .u8 0)], 0, true⟩] 0)
   (.seq (.reg [⟨(some (.o (.o (.o .h)))), none, .slArr 16 1 (.s (.o (.i .h))) none none, 0, true⟩,
    ⟨(some (.i (.o (.o .h)))), none, .mov (.s .h), 0, true⟩,
    ⟨(some (.o (.i (.o .h)))), none, .cpy 1 (.s (.o (.o (.o .h)))) (.s (.i (.o (.o .h)))), 0, true⟩] 0)
   (.seq (.seq (.reg [⟨(some (.i (.i (.o .h)))), none, .mov (.c (.int .i64 0)), 0, true⟩] 0)
   (.block 0 (.loop (.seq (.reg [⟨(some (.o (.o (.i .h)))), none, .bin .lss (.s (.i (.i (.o .h)))) (.c (.int .i64 4)), 0, true⟩] 0)
   (.seq (.cond (.s (.o (.o (.i .h))))
   .skip
   (.exit 0))
   (.seq (.block 1 (.seq (.reg [⟨(some (.i (.o (.i .h)))), none, .mov (.s (.i (.i (.o .h)))), 0, true⟩,
    ⟨(some (.i (.i .h))), none, .mov (.s (.i (.o (.i .h)))), 0, true⟩] 0)
   (.reg [⟨(some (.o (.i (.i .h)))), none, .mov (.s (.i (.i .h))), 0, true⟩,
    ⟨(some (.i (.i (.i .h)))), none, .bin .sub (.c (.int .i64 15)) (.s (.o (.i (.i .h)))), 0, true⟩,
    ⟨(some (.o (.o (.o (.o .h))))), none, .mov (.s (.o .h)), 0, true⟩,
    ⟨(some (.i (.o (.o (.o .h))))), none, .mov (.s (.i (.i .h))), 0, true⟩,
    ⟨(some (.o (.i (.o (.o .h))))), none, .bin .mul (.c (.int .i64 8)) (.s (.i (.o (.o (.o .h))))), 0, true⟩,
    ⟨(some (.i (.i (.o (.o .h))))), none, .bin .shr (.s (.o (.o (.o (.o .h))))) (.s (.o (.i (.o (.o .h))))), 0, true⟩,
    ⟨(some (.o (.o (.i (.o .h))))), none, .conv .u8 (.s (.i (.i (.o (.o .h))))), 0, true⟩,
    ⟨(some (.i (.o (.i (.o .h))))), none, .ixA 16 1 (.s (.o (.i .h))) (.s (.i (.i (.i .h)))), 0, true⟩,
    ⟨none, none, .store 1 (.s (.i (.o (.i (.o .h))))) (.s (.o (.o (.i (.o .h))))), 0, true⟩] 0)))
   (.reg [⟨(some (.o (.i (.i (.o .h))))), none, .bin .add (.s (.i (.i (.o .h)))) (.c (.int .i64 1)), 0, true⟩,
    ⟨(some (.i (.i (.o .h)))), none, .mov (.s (.o (.i (.i (.o .h))))), 0, true⟩] 0)))))))
   (.seq (.reg [⟨(some (.i (.i (.i (.o .h))))), none, .load true 16 (.s (.o (.i .h))), 0, true⟩,
    ⟨none, none, .store 16 (.s (.i (.o .h))) (.s (.i (.i (.i (.o .h))))), 0, true⟩] 0)
   .ret))))) }

/-- halberd/aes.table -/
noncomputable def d107 : Go.AE.Fd := { np := 0, res := [.cell .h true 256], code :=
   (.seq (.reg [⟨(some .h), none, .alloc [(.int .u8 0), (.int .u8 0), (.int .u8 0), (.int .u8 0), (.int .u8 0), (.int .u8 0), (.int .u8 0), (.int .u8 0), (.int .u8 0), (.int .u8 0), (.int .u8 0), (.int .u8 0), (.int .u8 0), (.int .u8 0), (.int .u8 0), (.int .u8 0), (.int .u8 0), (.int .u8 0), (.int .u8 0), (.int .u8 0), (.int .u8 0), (.int .u8 0), (.int .u8 0), (.int .u8 0), (.int .u8 0), (.int .u8 0), (.int .u8 0), (.int .u8 0), (.int .u8 0), (.int .u8 0), (.int .u8 0), (.int .u8 0), (.int .u8 0), (.int .u8 0), (.int .u8 0), (.int .u8 0), (.int .u8 0), (.int .u8 0), (.int .u8 0), (.int .u8 0), (.int .u8 0), (.int .u8 0), (.int .u8 0), (.int .u8 0), (.int .u8 0), (.int .u8 0), (.int .u8 0), (.int .u8 0), (.int .u8 0), (.int .u8 0), (.int .u8 0), (.int .u8 0), (.int .u8 0), (.int .u8 0), (.int .u8 0), (.int .u8 0), (.int .u8 0), (.int .u8 0), (.int .u8 0), (.int .u8 0), (.int .u8 0), (.int .u8 0), (.int .u8 0), (.int .u8 0), (.int .u8 0), (.int .u8 0), (.int .u8 0), (.int .u8 0), (.int .u8 0), (.int .u8 0), (.int .u8 0), (.int .u8 0), (.int .u8 0), (.int .u8 0), (.int .u8 0), (.int .u8 0), (.int .u8 0), (.int .u8 0), (.int .u8 0), (.int .u8 0), (.int .u8 0), (.int .u8 0), (.int .u8 0), (.int .u8 0), (.int .u8 0), (.int .u8 0), (.int .u8 0), (.int .u8 0), (.int .u8 0), (.int .u8 0), (.int .u8 0), (.int .u8 0), (.int .u8 0), (.int .u8 0), (.int .u8 0), (.int .u8 0), (.int .u8 0), (.int .u8 0), (.int .u8 0), (.int .u8 0), (.int .u8 0), (.int .u8 0), (.int .u8 0), (.int .u8 0), (.int .u8 0), (.int .u8 0), (.int .u8 0), (.int .u8 0), (.int .u8 0), (.int .u8 0), (.int .u8 0), (.int .u8 0), (.int .u8 0), (.int .u8 0), (.int .u8 0), (.int .u8 0), (.int .u8 0), (.int .u8 0), (.int .u8 0), (.int .u8 0), (.int .u8 0), (.int .u8 0), (.int .u8 0), (.int .u8 0), (.int .u8 0), (.int .u8 0), (.int .u8 0), (.int .u8 0), (.int .u8 0), (.int .u8 0), (.int .u8 0), (.int .u8 0), (.int .u8 0), (.int .u8 0), (.int .u8 0), (.int .u8 0), (.int .u8 0), (.int .u8 0), (.int .u8 0), (.int .u8 0), (.int .u8 0), (.int .u8 0), (.int .u8 0), (.int .u8 0), (.int .u8 0), (.int .u8 0), (.int .u8 0), (.int .u8 0), (.int .u8 0), (.int .u8 0), (.int .u8 0), (.int .u8 0), (.int .u8 0), (.int .u8 0), (.int .u8 0), (.int .u8 0), (.int .u8 0), (.int .u8 0), (.int .u8 0), (.int .u8 0), (.int .u8 0), (.int .u8 0), (.int .u8 0), (.int .u8 0), (.int .u8 0), (.int .u8 0), (.int .u8 0), (.int .u8 0), (.int .u8 0), (.int .u8 0), (.int .u8 0), (.int .u8 0), (.int .u8 0), (.int .u8 0), (.int .u8 0), (.int .u8 0), (.int .u8 0), (.int .u8 0), (.int .u8 0), (.int .u8 0), (.int .u8 0), (.int .u8 0), (.int .u8 0), (.int .u8 0), (.int .u8 0), (.int .u8 0), (.int .u8 0), (.int .u8 0), (.int .u8 0), (.int .u8 0), (.int .u8 0), (.int .u8 0), (.int .u8 0), (.int .u8 0), (.int .u8 0), (.int .u8 0), (.int .u8 0), (.int .u8 0), (.int .u8 0), (.int .u8 0), (.int .u8 0), (.int .u8 0), (.int .u8 0), (.int .u8 0), (.int .u8 0), (.int .u8 0), (.int .u8 0), (.int .u8 0), (.int .u8 0), (.int .u8 0), (.int .u8 0), (.int .u8 0), (.int .u8 0), (.int .u8 0), (.int .u8 0), (.int .u8 0), (.int .u8 0), (.int .u8 0), (.int .u8 0), (.int .u8 0), (.int .u8 0), (.int .u8 0), (.int .u8 0), (.int .u8 0), (.int .u8 0), (.int .u8 0), (.int .u8 0), (.int .u8 0), (.int .u8 0), (.int .u8 0), (.int .u8 0), (.int .u8 0), (.int .u8 0), (.int .u8 0), (.int .u8 0), (.int .u8 0), (.int .u8 0), (.int .u8 0), (.int .u8 0), (.int .u8 0), (.int .u8 0), (.int .u8 0), (.int .u8 0), (.int .u8 0), (.int .u8 0), (.int .u8 0), (.int .u8 0), (.int .u8 0), (.int .u8 0), (.int .u8 0), (.int .u8 0), (.int .u8 0), (.int .u8 0), (.int .u8 0), (.int .u8 0), (.int .u8 0)], 0, true⟩] 0)
   (.seq (.reg [⟨(some (.i (.o .h))), none, .build [(.int .u8 0), (.int .u8 0), (.int .u8 0), (.int .u8 0), (.int .u8 0), (.int .u8 0), (.int .u8 0), (.int .u8 0), (.int .u8 0), (.int .u8 0), (.int .u8 0), (.int .u8 0), (.int .u8 0), (.int .u8 0), (.int .u8 0), (.int .u8 0), (.int .u8 0), (.int .u8 0), (.int .u8 0), (.int .u8 0), (.int .u8 0), (.int .u8 0), (.int .u8 0), (.int .u8 0), (.int .u8 0), (.int .u8 0), (.int .u8 0), (.int .u8 0), (.int .u8 0), (.int .u8 0), (.int .u8 0), (.int .u8 0), (.int .u8 0), (.int .u8 0), (.int .u8 0), (.int .u8 0), (.int .u8 0), (.int .u8 0), (.int .u8 0), (.int .u8 0), (.int .u8 0), (.int .u8 0), (.int .u8 0), (.int .u8 0), (.int .u8 0), (.int .u8 0), (.int .u8 0), (.int .u8 0), (.int .u8 0), (.int .u8 0), (.int .u8 0), (.int .u8 0), (.int .u8 0), (.int .u8 0), (.int .u8 0), (.int .u8 0), (.int .u8 0), (.int .u8 0), (.int .u8 0), (.int .u8 0), (.int .u8 0), (.int .u8 0), (.int .u8 0), (.int .u8 0), (.int .u8 0), (.int .u8 0), (.int .u8 0), (.int .u8 0), (.int .u8 0), (.int .u8 0), (.int .u8 0), (.int .u8 0), (.int .u8 0), (.int .u8 0), (.int .u8 0), (.int .u8 0), (.int .u8 0), (.int .u8 0), (.int .u8 0), (.int .u8 0), (.int .u8 0), (.int .u8 0), (.int .u8 0), (.int .u8 0), (.int .u8 0), (.int .u8 0), (.int .u8 0), (.int .u8 0), (.int .u8 0), (.int .u8 0), (.int .u8 0), (.int .u8 0), (.int .u8 0), (.int .u8 0), (.int .u8 0), (.int .u8 0), (.int .u8 0), (.int .u8 0), (.int .u8 0), (.int .u8 0), (.int .u8 0), (.int .u8 0), (.int .u8 0), (.int .u8 0), (.int .u8 0), (.int .u8 0), (.int .u8 0), (.int .u8 0), (.int .u8 0), (.int .u8 0), (.int .u8 0), (.int .u8 0), (.int .u8 0), (.int .u8 0), (.int .u8 0), (.int .u8 0), (.int .u8 0), (.int .u8 0), (.int .u8 0), (.int .u8 0), (.int .u8 0), (.int .u8 0), (.int .u8 0), (.int .u8 0), (.int .u8 0), (.int .u8 0), (.int .u8 0), (.int .u8 0), (.int .u8 0), (.int .u8 0), (.int .u8 0), (.int .u8 0), (.int .u8 0), (.int .u8 0), (.int .u8 0), (.int .u8 0), (.int .u8 0), (.int .u8 0), (.int .u8 0), (.int .u8 0), (.int .u8 0), (.int .u8 0), (.int .u8 0), (.int .u8 0), (.int .u8 0), (.int .u8 0), (.int .u8 0), (.int .u8 0), (.int .u8 0), (.int .u8 0), (.int .u8 0), (.int .u8 0), (.int .u8 0), (.int .u8 0), (.int .u8 0), (.int .u8 0), (.int .u8 0), (.int .u8 0), (.int .u8 0), (.int .u8 0), (.int .u8 0), (.int .u8 0), (.int .u8 0), (.int .u8 0), (.int .u8 0), (.int .u8 0), (.int .u8 0), (.int .u8 0), (.int .u8 0), (.int .u8 0), (.int .u8 0), (.int .u8 0), (.int .u8 0), (.int .u8 0), (.int .u8 0), (.int .u8 0), (.int .u8 0), (.int .u8 0), (.int .u8 0), (.int .u8 0), (.int .u8 0), (.int .u8 0), (.int .u8 0), (.int .u8 0), (.int .u8 0), (.int .u8 0), (.int .u8 0), (.int .u8 0), (.int .u8 0), (.int .u8 0), (.int .u8 0), (.int .u8 0), (.int .u8 0), (.int .u8 0), (.int .u8 0), (.int .u8 0), (.int .u8 0), (.int .u8 0), (.int .u8 0), (.int .u8 0), (.int .u8 0), (.int .u8 0), (.int .u8 0), (.int .u8 0), (.int .u8 0), (.int .u8 0), (.int .u8 0), (.int .u8 0), (.int .u8 0), (.int .u8 0), (.int .u8 0), (.int .u8 0), (.int .u8 0), (.int .u8 0), (.int .u8 0), (.int .u8 0), (.int .u8 0), (.int .u8 0), (.int .u8 0), (.int .u8 0), (.int .u8 0), (.int .u8 0), (.int .u8 0), (.int .u8 0), (.int .u8 0), (.int .u8 0), (.int .u8 0), (.int .u8 0), (.int .u8 0), (.int .u8 0), (.int .u8 0), (.int .u8 0), (.int .u8 0), (.int .u8 0), (.int .u8 0), (.int .u8 0), (.int .u8 0), (.int .u8 0), (.int .u8 0), (.int .u8 0), (.int .u8 0), (.int .u8 0), (.int .u8 0), (.int .u8 0), (.int .u8 0), (.int .u8 0), (.int .u8 0), (.int .u8 0), (.int .u8 0), (.int .u8 0), (.int .u8 0), (.int .u8 0), (.int .u8 0), (.int .u8 0), (.int .u8 0), (.int .u8 0)] [(0, 1, (.c (.int .u8 99)))], 0, true⟩,
    ⟨(some (.o .h)), none, .alloc [(.int .u8 0), (.int .u8 0), (.int .u8 0), (.int .u8 0), (.int .u8 0), (.int .u8 0), (.int .u8 0), (.int .u8 0), (.int .u8 0), (.int .u8 0), (.int .u8 0), (.int .u8 0), (.int .u8 0), (.int .u8 0), (.int .u8 0), (.int .u8 0), (.int .u8 0), (.int .u8 0), (.int .u8 0), (.int .u8 0), (.int .u8 0), (.int .u8 0), (.int .u8 0), (.int .u8 0), (.int .u8 0), (.int .u8 0), (.int .u8 0), (.int .u8 0), (.int .u8 0), (.int .u8 0), (.int .u8 0), (.int .u8 0), (.int .u8 0), (.int .u8 0), (.int .u8 0), (.int .u8 0), (.int .u8 0), (.int .u8 0), (.int .u8 0), (.int .u8 0), (.int .u8 0), (.int .u8 0), (.int .u8 0), (.int .u8 0), (.int .u8 0), (.int .u8 0), (.int .u8 0), (.int .u8 0), (.int .u8 0), (.int .u8 0), (.int .u8 0), (.int .u8 0), (.int .u8 0), (.int .u8 0), (.int .u8 0), (.int .u8 0), (.int .u8 0), (.int .u8 0), (.int .u8 0), (.int .u8 0), (.int .u8 0), (.int .u8 0), (.int .u8 0), (.int .u8 0), (.int .u8 0), (.int .u8 0), (.int .u8 0), (.int .u8 0), (.int .u8 0), (.int .u8 0), (.int .u8 0), (.int .u8 0), (.int .u8 0), (.int .u8 0), (.int .u8 0), (.int .u8 0), (.int .u8 0), (.int .u8 0), (.int .u8 0), (.int .u8 0), (.int .u8 0), (.int .u8 0), (.int .u8 0), (.int .u8 0), (.int .u8 0), (.int .u8 0), (.int .u8 0), (.int .u8 0), (.int .u8 0), (.int .u8 0), (.int .u8 0), (.int .u8 0), (.int .u8 0), (.int .u8 0), (.int .u8 0), (.int .u8 0), (.int .u8 0), (.int .u8 0), (.int .u8 0), (.int .u8 0), (.int .u8 0), (.int .u8 0), (.int .u8 0), (.int .u8 0), (.int .u8 0), (.int .u8 0), (.int .u8 0), (.int .u8 0), (.int .u8 0), (.int .u8 0), (.int .u8 0), (.int .u8 0), (.int .u8 0), (.int .u8 0), (.int .u8 0), (.int .u8 0), (.int .u8 0), (.int .u8 0), (.int .u8 0), (.int .u8 0), (.int .u8 0), (.int .u8 0), (.int .u8 0), (.int .u8 0), (.int .u8 0), (.int .u8 0), (.int .u8 0), (.int .u8 0), (.int .u8 0), (.int .u8 0), (.int .u8 0), (.int .u8 0), (.int .u8 0), (.int .u8 0), (.int .u8 0), (.int .u8 0), (.int .u8 0), (.int .u8 0), (.int .u8 0), (.int .u8 0), (.int .u8 0), (.int .u8 0), (.int .u8 0), (.int .u8 0), (.int .u8 0), (.int .u8 0), (.int .u8 0), (.int .u8 0), (.int .u8 0), (.int .u8 0), (.int .u8 0), (.int .u8 0), (.int .u8 0), (.int .u8 0), (.int .u8 0), (.int .u8 0), (.int .u8 0), (.int .u8 0), (.int .u8 0), (.int .u8 0), (.int .u8 0), (.int .u8 0), (.int .u8 0), (.int .u8 0), (.int .u8 0), (.int .u8 0), (.int .u8 0), (.int .u8 0), (.int .u8 0), (.int .u8 0), (.int .u8 0), (.int .u8 0), (.int .u8 0), (.int .u8 0), (.int .u8 0), (.int .u8 0), (.int .u8 0), (.int .u8 0), (.int .u8 0), (.int .u8 0), (.int .u8 0), (.int .u8 0), (.int .u8 0), (.int .u8 0), (.int .u8 0), (.int .u8 0), (.int .u8 0), (.int .u8 0), (.int .u8 0), (.int .u8 0), (.int .u8 0), (.int .u8 0), (.int .u8 0), (.int .u8 0), (.int .u8 0), (.int .u8 0), (.int .u8 0), (.int .u8 0), (.int .u8 0), (.int .u8 0), (.int .u8 0), (.int .u8 0), (.int .u8 0), (.int .u8 0), (.int .u8 0), (.int .u8 0), (.int .u8 0), (.int .u8 0), (.int .u8 0), (.int .u8 0), (.int .u8 0), (.int .u8 0), (.int .u8 0), (.int .u8 0), (.int .u8 0), (.int .u8 0), (.int .u8 0), (.int .u8 0), (.int .u8 0), (.int .u8 0), (.int .u8 0), (.int .u8 0), (.int .u8 0), (.int .u8 0), (.int .u8 0), (.int .u8 0), (.int .u8 0), (.int .u8 0), (.int .u8 0), (.int .u8 0), (.int .u8 0), (.int .u8 0), (.int .u8 0), (.int .u8 0), (.int .u8 0), (.int .u8 0), (.int .u8 0), (.int .u8 0), (.int .u8 0), (.int .u8 0), (.int .u8 0), (.int .u8 0), (.int .u8 0), (.int .u8 0), (.int .u8 0), (.int .u8 0), (.int .u8 0), (.int .u8 0), (.int .u8 0), (.int .u8 0), (.int .u8 0), (.int .u8 0), (.int .u8 0), (.int .u8 0), (.int .u8 0), (.int .u8 0)], 0, true⟩,
    ⟨none, none, .store 256 (.s (.o .h)) (.s (.i (.o .h))), 0, true⟩] 0)
   (.seq (.reg [⟨(some (.i .h)), none, .mov (.c (.int .u8 1)), 0, true⟩,
    ⟨(some (.o (.o .h))), none, .mov (.c (.int .u8 1)), 0, true⟩] 0)
   (.block 0 (.loop (.block 1 (.seq (.reg [⟨(some (.o (.i .h))), none, .mov (.s (.i .h)), 0, true⟩,
    ⟨(some (.i (.i .h))), none, .mov (.s (.i .h)), 0, true⟩,
    ⟨(some (.o (.o (.o .h)))), none, .call (.i (.o (.i (.i (.o (.i .h)))))) [(.s (.i (.i .h)))], 0, true⟩,
    ⟨(some (.i (.o (.o .h)))), none, .bin .xor (.s (.o (.i .h))) (.s (.o (.o (.o .h)))), 0, true⟩,
    ⟨(some (.i .h)), none, .mov (.s (.i (.o (.o .h)))), 0, true⟩] 0)
   (.seq (.reg [⟨(some (.o (.i (.o .h)))), none, .mov (.s (.o (.o .h))), 0, true⟩,
    ⟨(some (.i (.i (.o .h)))), none, .mov (.s (.o (.o .h))), 0, true⟩,
    ⟨(some (.o (.o (.i .h)))), none, .bin .shl (.s (.i (.i (.o .h)))) (.c (.int .u64 1)), 0, true⟩,
    ⟨(some (.i (.o (.i .h)))), none, .bin .xor (.s (.o (.i (.o .h)))) (.s (.o (.o (.i .h)))), 0, true⟩,
    ⟨(some (.o (.o .h))), none, .mov (.s (.i (.o (.i .h)))), 0, true⟩] 0)
   (.seq (.reg [⟨(some (.o (.i (.i .h)))), none, .mov (.s (.o (.o .h))), 0, true⟩,
    ⟨(some (.i (.i (.i .h)))), none, .mov (.s (.o (.o .h))), 0, true⟩,
    ⟨(some (.o (.o (.o (.o .h))))), none, .bin .shl (.s (.i (.i (.i .h)))) (.c (.int .u64 2)), 0, true⟩,
    ⟨(some (.i (.o (.o (.o .h))))), none, .bin .xor (.s (.o (.i (.i .h)))) (.s (.o (.o (.o (.o .h))))), 0, true⟩,
    ⟨(some (.o (.o .h))), none, .mov (.s (.i (.o (.o (.o .h))))), 0, true⟩] 0)
   (.seq (.reg [⟨(some (.o (.i (.o (.o .h))))), none, .mov (.s (.o (.o .h))), 0, true⟩,
    ⟨(some (.i (.i (.o (.o .h))))), none, .mov (.s (.o (.o .h))), 0, true⟩,
    ⟨(some (.o (.o (.i (.o .h))))), none, .bin .shl (.s (.i (.i (.o (.o .h))))) (.c (.int .u64 4)), 0, true⟩,
    ⟨(some (.i (.o (.i (.o .h))))), none, .bin .xor (.s (.o (.i (.o (.o .h))))) (.s (.o (.o (.i (.o .h))))), 0, true⟩,
    ⟨(some (.o (.o .h))), none, .mov (.s (.i (.o (.i (.o .h))))), 0, true⟩] 0)
   (.seq (.reg [⟨(some (.o (.i (.i (.o .h))))), none, .mov (.s (.o (.o .h))), 0, true⟩,
    ⟨(some (.i (.i (.i (.o .h))))), none, .mov (.s (.o (.o .h))), 0, true⟩,
    ⟨(some (.o (.o (.o (.i .h))))), none, .bin .shr (.s (.i (.i (.i (.o .h))))) (.c (.int .u64 7)), 0, true⟩,
    ⟨(some (.i (.o (.o (.i .h))))), none, .un .neg (.s (.o (.o (.o (.i .h))))), 0, true⟩,
    ⟨(some (.o (.i (.o (.i .h))))), none, .bin .and (.c (.int .u8 9)) (.s (.i (.o (.o (.i .h))))), 0, true⟩,
    ⟨(some (.i (.i (.o (.i .h))))), none, .bin .xor (.s (.o (.i (.i (.o .h))))) (.s (.o (.i (.o (.i .h))))), 0, true⟩,
    ⟨(some (.o (.o .h))), none, .mov (.s (.i (.i (.o (.i .h))))), 0, true⟩] 0)
   (.seq (.reg [⟨(some (.o (.o (.i (.i .h))))), none, .mov (.s (.i .h)), 0, true⟩,
    ⟨(some (.i (.o (.i (.i .h))))), none, .mov (.s (.o (.o .h))), 0, true⟩,
    ⟨(some (.o (.i (.i (.i .h))))), none, .bin .xor (.c (.int .u8 99)) (.s (.i (.o (.i (.i .h))))), 0, true⟩,
    ⟨(some (.i (.i (.i (.i .h))))), none, .mov (.s (.o (.o .h))), 0, true⟩,
    ⟨(some (.o (.o (.o (.o (.o .h)))))), none, .call (.i (.i (.i (.i (.o (.i .h)))))) [(.s (.i (.i (.i (.i .h))))), (.c (.int .i64 1))], 0, true⟩,
    ⟨(some (.i (.o (.o (.o (.o .h)))))), none, .bin .xor (.s (.o (.i (.i (.i .h))))) (.s (.o (.o (.o (.o (.o .h)))))), 0, true⟩,
    ⟨(some (.o (.i (.o (.o (.o .h)))))), none, .mov (.s (.o (.o .h))), 0, true⟩,
    ⟨(some (.i (.i (.o (.o (.o .h)))))), none, .call (.i (.i (.i (.i (.o (.i .h)))))) [(.s (.o (.i (.o (.o (.o .h)))))), (.c (.int .i64 2))], 0, true⟩,
    ⟨(some (.o (.o (.i (.o (.o .h)))))), none, .bin .xor (.s (.i (.o (.o (.o (.o .h)))))) (.s (.i (.i (.o (.o (.o .h)))))), 0, true⟩,
    ⟨(some (.i (.o (.i (.o (.o .h)))))), none, .mov (.s (.o (.o .h))), 0, true⟩,
    ⟨(some (.o (.i (.i (.o (.o .h)))))), none, .call (.i (.i (.i (.i (.o (.i .h)))))) [(.s (.i (.o (.i (.o (.o .h)))))), (.c (.int .i64 3))], 0, true⟩,
    ⟨(some (.i (.i (.i (.o (.o .h)))))), none, .bin .xor (.s (.o (.o (.i (.o (.o .h)))))) (.s (.o (.i (.i (.o (.o .h)))))), 0, true⟩,
    ⟨(some (.o (.o (.o (.i (.o .h)))))), none, .mov (.s (.o (.o .h))), 0, true⟩,
    ⟨(some (.i (.o (.o (.i (.o .h)))))), none, .call (.i (.i (.i (.i (.o (.i .h)))))) [(.s (.o (.o (.o (.i (.o .h)))))), (.c (.int .i64 4))], 0, true⟩,
    ⟨(some (.o (.i (.o (.i (.o .h)))))), none, .bin .xor (.s (.i (.i (.i (.o (.o .h)))))) (.s (.i (.o (.o (.i (.o .h)))))), 0, true⟩,
    ⟨(some (.i (.i (.o (.i (.o .h)))))), none, .ixA 256 1 (.s (.o .h)) (.s (.o (.o (.i (.i .h))))), 0, true⟩,
    ⟨none, none, .store 1 (.s (.i (.i (.o (.i (.o .h)))))) (.s (.o (.i (.o (.i (.o .h)))))), 0, true⟩] 0)
   (.seq (.reg [⟨(some (.o (.o (.i (.i (.o .h)))))), none, .mov (.s (.i .h)), 0, true⟩,
    ⟨(some (.i (.o (.i (.i (.o .h)))))), none, .bin .eql (.s (.o (.o (.i (.i (.o .h)))))) (.c (.int .u8 1)), 0, true⟩] 0)
   (.cond (.s (.i (.o (.i (.i (.o .h))))))
   (.seq (.reg [⟨(some (.o (.i (.i (.i (.o .h)))))), none, .load true 256 (.s (.o .h)), 0, true⟩,
    ⟨none, none, .store 256 (.s .h) (.s (.o (.i (.i (.i (.o .h)))))), 0, true⟩] 0)
   .ret)
   .skip)))))))))))))) }

/-- halberd/aes.twice -/
noncomputable def d108 : Go.AE.Fd := { np := 1, res := [.tmp (.i .h)], code :=
   (.seq (.reg [⟨(some (.i .h)), none, .mov (.c (.int .u8 0)), 0, true⟩] 0)
   (.seq (.reg [⟨(some (.o (.o .h))), none, .mov (.s .h), 0, true⟩,
    ⟨(some (.i (.o .h))), none, .bin .shl (.s (.o (.o .h))) (.c (.int .u64 1)), 0, true⟩,
    ⟨(some (.o (.i .h))), none, .mov (.s .h), 0, true⟩,
    ⟨(some (.i (.i .h))), none, .bin .shr (.s (.o (.i .h))) (.c (.int .u64 7)), 0, true⟩,
    ⟨(some (.o (.o (.o .h)))), none, .un .neg (.s (.i (.i .h))), 0, true⟩,
    ⟨(some (.i (.o (.o .h)))), none, .bin .and (.c (.int .u8 27)) (.s (.o (.o (.o .h)))), 0, true⟩,
    ⟨(some (.o (.i (.o .h)))), none, .bin .xor (.s (.i (.o .h))) (.s (.i (.o (.o .h)))), 0, true⟩,
    ⟨(some (.i .h)), none, .mov (.s (.o (.i (.o .h)))), 0, true⟩] 0)
   .ret)) }

/-- (halberd/gcm.element).half -/
noncomputable def d109 : Go.AE.Fd := { np := 1, res := [.cell (.i .h) true 2], code :=
   (.seq (.reg [⟨(some (.o .h)), none, .box (.s .h), 0, true⟩,
    ⟨(some (.i .h)), none, .alloc [(.int .u64 0), (.int .u64 0)], 0, true⟩] 0)
   (.seq (.reg [⟨(some (.o (.o .h))), none, .lea 0 (.s (.o .h)), 0, true⟩,
    ⟨(some (.i (.o .h))), none, .load false 1 (.s (.o (.o .h))), 0, true⟩,
    ⟨(some (.o (.i .h))), none, .bin .shr (.s (.i (.o .h))) (.c (.int .u64 1)), 0, true⟩,
    ⟨(some (.i (.i .h))), none, .lea 1 (.s (.o .h)), 0, true⟩,
    ⟨(some (.o (.o (.o .h)))), none, .load false 1 (.s (.i (.i .h))), 0, true⟩,
    ⟨(some (.i (.o (.o .h)))), none, .bin .and (.s (.o (.o (.o .h)))) (.c (.int .u64 1)), 0, true⟩,
    ⟨(some (.o (.i (.o .h)))), none, .un .neg (.s (.i (.o (.o .h)))), 0, true⟩,
    ⟨(some (.i (.i (.o .h)))), none, .bin .and (.c (.int .u64 16212958658533785600)) (.s (.o (.i (.o .h)))), 0, true⟩,
    ⟨(some (.o (.o (.i .h)))), none, .bin .xor (.s (.o (.i .h))) (.s (.i (.i (.o .h)))), 0, true⟩,
    ⟨(some (.i (.o (.i .h)))), none, .lea 1 (.s (.o .h)), 0, true⟩,
    ⟨(some (.o (.i (.i .h)))), none, .load false 1 (.s (.i (.o (.i .h)))), 0, true⟩,
    ⟨(some (.i (.i (.i .h)))), none, .bin .shr (.s (.o (.i (.i .h)))) (.c (.int .u64 1)), 0, true⟩,
    ⟨(some (.o (.o (.o (.o .h))))), none, .lea 0 (.s (.o .h)), 0, true⟩,
    ⟨(some (.i (.o (.o (.o .h))))), none, .load false 1 (.s (.o (.o (.o (.o .h))))), 0, true⟩,
    ⟨(some (.o (.i (.o (.o .h))))), none, .bin .shl (.s (.i (.o (.o (.o .h))))) (.c (.int .u64 63)), 0, true⟩,
    ⟨(some (.i (.i (.o (.o .h))))), none, .bin .or (.s (.i (.i (.i .h)))) (.s (.o (.i (.o (.o .h))))), 0, true⟩,
    ⟨(some (.o (.o (.i (.o .h))))), none, .build [(.int .u64 0), (.int .u64 0)] [(0, 1, (.s (.o (.o (.i .h))))), (1, 1, (.s (.i (.i (.o (.o .h))))))], 0, true⟩,
    ⟨none, none, .store 2 (.s (.i .h)) (.s (.o (.o (.i (.o .h))))), 0, true⟩] 0)
   .ret)) }

/-- math/bits.RotateLeft8 -/
noncomputable def d110 : Go.AE.Fd := { np := 2, res := [.tmp (.i (.o .h))], code :=
   (.seq (.reg [⟨(some (.i (.o .h))), none, .mov (.c (.int .u8 0)), 0, true⟩] 0)
   (.seq (.reg [⟨(some (.i (.i .h))), none, .mov (.s (.o .h)), 0, true⟩,
    ⟨(some (.o (.o (.o .h)))), none, .conv .u64 (.s (.i (.i .h))), 0, true⟩,
    ⟨(some (.i (.o (.o .h)))), none, .bin .and (.s (.o (.o (.o .h)))) (.c (.int .u64 7)), 0, true⟩,
    ⟨(some (.o (.i .h))), none, .mov (.s (.i (.o (.o .h)))), 0, true⟩] 0)
   (.seq (.reg [⟨(some (.o (.i (.o .h)))), none, .mov (.s .h), 0, true⟩,
    ⟨(some (.i (.i (.o .h)))), none, .mov (.s (.o (.i .h))), 0, true⟩,
    ⟨(some (.o (.o (.i .h)))), none, .bin .shl (.s (.o (.i (.o .h)))) (.s (.i (.i (.o .h)))), 0, true⟩,
    ⟨(some (.i (.o (.i .h)))), none, .mov (.s .h), 0, true⟩,
    ⟨(some (.o (.i (.i .h)))), none, .mov (.s (.o (.i .h))), 0, true⟩,
    ⟨(some (.i (.i (.i .h)))), none, .bin .sub (.c (.int .u64 8)) (.s (.o (.i (.i .h)))), 0, true⟩,
    ⟨(some (.o (.o (.o (.o .h))))), none, .bin .shr (.s (.i (.o (.i .h)))) (.s (.i (.i (.i .h)))), 0, true⟩,
    ⟨(some (.i (.o (.o (.o .h))))), none, .bin .or (.s (.o (.o (.i .h)))) (.s (.o (.o (.o (.o .h))))), 0, true⟩,
    ⟨(some (.i (.o .h))), none, .mov (.s (.i (.o (.o (.o .h))))), 0, true⟩] 0)
   .ret))) }

end Go.Proofs.YtmgbeipdeeegoaaGreatDoor.S

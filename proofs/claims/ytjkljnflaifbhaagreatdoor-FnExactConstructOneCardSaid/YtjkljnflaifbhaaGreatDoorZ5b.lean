/- No conditions. -/
import Derived.Test.YtjkljnflaifbhaaGreatDoorZ5a
namespace Go.Proofs.YtjkljnflaifbhaaGreatDoor
open Go.Vai
set_option maxHeartbeats 1000000 in
theorem abM(nm:ByteArray)(l:List ByteArray)(ch p0 p1 p2 p3 p4 p5 q0 q1 q2 q3:Int)(hl:l.length<=1048576):
 bO (nm,7,l,ch,((p0,p1,p2),(p3,p4,p5)),(q0,q1,q2,q3))=some (cg nm&&mS 7 (nm,7,l,ch,((p0,p1,p2),(p3,p4,p5)),(q0,q1,q2,q3))):=by
 rw[bO,eo,ly,Option.bind_some]
 cases cg nm
 ·rfl
 ·have e:cH 7 1 12=some true:=by rw[gz];rfl
  have e2:dq 7=some 2:=by kernel_rfl
  have e3:cn 7=some false:=by kernel_rfl
  have hw:=pZ 7 ch nm ((p0,p1,p2),(p3,p4,p5)) (q0,q1,q2,q3) l hl l [] rfl
  simp only[List.length_nil]at hw
  have hw':bN (cb 0 nm 7 l ch p0 p1 p2 p3 p4 p5 q0 q1 q2 q3)=_:=hw
  rw[Bool.not_true,cond_false,e,Option.bind_some,Bool.not_true,cond_false,e2,Option.bind_some,gz,Option.bind_some,e3,Option.bind_some,hw']
  have hb:(((l.length:Nat):Int) !=2)= !decide (l.length=2):=Br (m:=2)
  dsimp only
  rw[hb,jR (a:=ch)]
  unfold mS
  have hz:zP ((p0,p1,p2),(p3,p4,p5))=((p0==0&&(p1==0&&(p2==0&&true)))&&((p3==0&&(p4==0&&(p5==0&&true)))&&true)):=rfl
  have hzl:zL (q0,q1,q2,q3)=(q0==0&&((q1==0&&(q2==0&&(q3==0&&true)))&&true)):=rfl
  have hp:=fk ((p0,p1,p2),(p3,p4,p5))
  have hq:=fE (q0,q1,q2,q3)
  have hc:decide (ch=0)=(decide (ch=0)&&(decide (0<=ch)&&decide (ch<=7))):=by
   by_cases h:ch=0
   ·subst h;rfl
   ·rw[aW h];rfl
  simp only[hz,hzl]
  generalize ((p0==0&&(p1==0&&(p2==0&&true)))&&((p3==0&&(p4==0&&(p5==0&&true)))&&true))=a1
  generalize (q0==0&&((q1==0&&(q2==0&&(q3==0&&true)))&&true))=a2
  cases l.all cg
  ·show _=some (true&&(decide (l.length=2)&&false))
   generalize (decide (0<=ch)&&decide (ch<=7))=a6
   generalize decide (ch=0)=a8
   generalize decide (l.length=2)=a7
   cases a1<;>cases a2<;>cases a6<;>cases a7<;>cases a8<;>rfl
  ·rw[cond_true]
   simp only[Option.bind_some,pD]
   rw[hp,hq]
   generalize ny ((p0,p1,p2),(p3,p4,p5))=a3
   generalize lY (q0,q1,q2,q3)=a4
   show _=some (true&&(decide (l.length=2)&&(true&&(decide (ch=0)&&_))))
   rw[hc]
   generalize (decide (0<=ch)&&decide (ch<=7))=a6
   generalize decide (ch=0)=a8
   generalize decide (l.length=2)=a7
   cases a1<;>cases a2<;>cases a3<;>cases a4<;>cases a6<;>cases a7<;>cases a8<;>rfl
set_option maxHeartbeats 1000000 in
theorem abN(nm:ByteArray)(l:List ByteArray)(ch p0 p1 p2 p3 p4 p5 q0 q1 q2 q3:Int)(hl:l.length<=1048576):
 bO (nm,8,l,ch,((p0,p1,p2),(p3,p4,p5)),(q0,q1,q2,q3))=some (cg nm&&mS 8 (nm,8,l,ch,((p0,p1,p2),(p3,p4,p5)),(q0,q1,q2,q3))):=by
 rw[bO,eo,ly,Option.bind_some]
 cases cg nm
 ·rfl
 ·have e:cH 8 1 12=some true:=by rw[gz];rfl
  have e2:dq 8=some 2:=by kernel_rfl
  have e3:cn 8=some true:=by kernel_rfl
  have hw:=pZ 8 ch nm ((p0,p1,p2),(p3,p4,p5)) (q0,q1,q2,q3) l hl l [] rfl
  simp only[List.length_nil]at hw
  have hw':bN (cb 0 nm 8 l ch p0 p1 p2 p3 p4 p5 q0 q1 q2 q3)=_:=hw
  rw[Bool.not_true,cond_false,e,Option.bind_some,Bool.not_true,cond_false,e2,Option.bind_some,gz,Option.bind_some,e3,Option.bind_some,hw']
  have hb:(((l.length:Nat):Int) !=2)= !decide (l.length=2):=Br (m:=2)
  dsimp only
  rw[hb,jR (a:=ch)]
  unfold mS
  have hz:zP ((p0,p1,p2),(p3,p4,p5))=((p0==0&&(p1==0&&(p2==0&&true)))&&((p3==0&&(p4==0&&(p5==0&&true)))&&true)):=rfl
  have hzl:zL (q0,q1,q2,q3)=(q0==0&&((q1==0&&(q2==0&&(q3==0&&true)))&&true)):=rfl
  have hp:=fk ((p0,p1,p2),(p3,p4,p5))
  have hq:=fE (q0,q1,q2,q3)
  have hc:decide (ch=0)=(decide (ch=0)&&(decide (0<=ch)&&decide (ch<=7))):=by
   by_cases h:ch=0
   ·subst h;rfl
   ·rw[aW h];rfl
  simp only[hz,hzl]
  generalize ((p0==0&&(p1==0&&(p2==0&&true)))&&((p3==0&&(p4==0&&(p5==0&&true)))&&true))=a1
  generalize (q0==0&&((q1==0&&(q2==0&&(q3==0&&true)))&&true))=a2
  cases l.all cg
  ·show _=some (true&&(decide (l.length=2)&&false))
   generalize (decide (0<=ch)&&decide (ch<=7))=a6
   generalize decide (ch=0)=a8
   generalize decide (l.length=2)=a7
   cases a1<;>cases a2<;>cases a6<;>cases a7<;>cases a8<;>rfl
  ·rw[cond_true]
   simp only[Option.bind_some,pD]
   rw[hp,hq]
   generalize ny ((p0,p1,p2),(p3,p4,p5))=a3
   generalize lY (q0,q1,q2,q3)=a4
   show _=some (true&&(decide (l.length=2)&&(true&&((decide (0<=ch)&&decide (ch<=7))&&_))))
   generalize (decide (0<=ch)&&decide (ch<=7))=a6
   generalize decide (ch=0)=a8
   generalize decide (l.length=2)=a7
   cases a1<;>cases a2<;>cases a3<;>cases a4<;>cases a6<;>cases a7<;>cases a8<;>rfl
set_option maxHeartbeats 1000000 in
theorem abO(nm:ByteArray)(l:List ByteArray)(ch p0 p1 p2 p3 p4 p5 q0 q1 q2 q3:Int)(hl:l.length<=1048576):
 bO (nm,9,l,ch,((p0,p1,p2),(p3,p4,p5)),(q0,q1,q2,q3))=some (cg nm&&mS 9 (nm,9,l,ch,((p0,p1,p2),(p3,p4,p5)),(q0,q1,q2,q3))):=by
 rw[bO,eo,ly,Option.bind_some]
 cases cg nm
 ·rfl
 ·have e:cH 9 1 12=some true:=by rw[gz];rfl
  have e2:dq 9=some 2:=by kernel_rfl
  have e3:cn 9=some false:=by kernel_rfl
  have hw:=pZ 9 ch nm ((p0,p1,p2),(p3,p4,p5)) (q0,q1,q2,q3) l hl l [] rfl
  simp only[List.length_nil]at hw
  have hw':bN (cb 0 nm 9 l ch p0 p1 p2 p3 p4 p5 q0 q1 q2 q3)=_:=hw
  rw[Bool.not_true,cond_false,e,Option.bind_some,Bool.not_true,cond_false,e2,Option.bind_some,gz,Option.bind_some,e3,Option.bind_some,hw']
  have hb:(((l.length:Nat):Int) !=2)= !decide (l.length=2):=Br (m:=2)
  dsimp only
  rw[hb,jR (a:=ch)]
  unfold mS
  have hz:zP ((p0,p1,p2),(p3,p4,p5))=((p0==0&&(p1==0&&(p2==0&&true)))&&((p3==0&&(p4==0&&(p5==0&&true)))&&true)):=rfl
  have hzl:zL (q0,q1,q2,q3)=(q0==0&&((q1==0&&(q2==0&&(q3==0&&true)))&&true)):=rfl
  have hp:=fk ((p0,p1,p2),(p3,p4,p5))
  have hq:=fE (q0,q1,q2,q3)
  have hc:decide (ch=0)=(decide (ch=0)&&(decide (0<=ch)&&decide (ch<=7))):=by
   by_cases h:ch=0
   ·subst h;rfl
   ·rw[aW h];rfl
  simp only[hz,hzl]
  generalize ((p0==0&&(p1==0&&(p2==0&&true)))&&((p3==0&&(p4==0&&(p5==0&&true)))&&true))=a1
  generalize (q0==0&&((q1==0&&(q2==0&&(q3==0&&true)))&&true))=a2
  cases l.all cg
  ·show _=some (true&&(decide (l.length=2)&&false))
   generalize (decide (0<=ch)&&decide (ch<=7))=a6
   generalize decide (ch=0)=a8
   generalize decide (l.length=2)=a7
   cases a1<;>cases a2<;>cases a6<;>cases a7<;>cases a8<;>rfl
  ·rw[cond_true]
   simp only[Option.bind_some,pD]
   rw[hp,hq]
   generalize ny ((p0,p1,p2),(p3,p4,p5))=a3
   generalize lY (q0,q1,q2,q3)=a4
   show _=some (true&&(decide (l.length=2)&&(true&&(decide (ch=0)&&_))))
   rw[hc]
   generalize (decide (0<=ch)&&decide (ch<=7))=a6
   generalize decide (ch=0)=a8
   generalize decide (l.length=2)=a7
   cases a1<;>cases a2<;>cases a3<;>cases a4<;>cases a6<;>cases a7<;>cases a8<;>rfl
set_option maxHeartbeats 1000000 in
theorem aaK(nm:ByteArray)(l:List ByteArray)(ch p0 p1 p2 p3 p4 p5 q0 q1 q2 q3:Int)(hl:l.length<=1048576):
 bO (nm,10,l,ch,((p0,p1,p2),(p3,p4,p5)),(q0,q1,q2,q3))=some (cg nm&&mS 10 (nm,10,l,ch,((p0,p1,p2),(p3,p4,p5)),(q0,q1,q2,q3))):=by
 rw[bO,eo,ly,Option.bind_some]
 cases cg nm
 ·rfl
 ·have e:cH 10 1 12=some true:=by rw[gz];rfl
  have e2:dq 10=some 3:=by kernel_rfl
  have e3:cn 10=some true:=by kernel_rfl
  have hw:=pZ 10 ch nm ((p0,p1,p2),(p3,p4,p5)) (q0,q1,q2,q3) l hl l [] rfl
  simp only[List.length_nil]at hw
  have hw':bN (cb 0 nm 10 l ch p0 p1 p2 p3 p4 p5 q0 q1 q2 q3)=_:=hw
  rw[Bool.not_true,cond_false,e,Option.bind_some,Bool.not_true,cond_false,e2,Option.bind_some,gz,Option.bind_some,e3,Option.bind_some,hw']
  have hb:(((l.length:Nat):Int) !=3)= !decide (l.length=3):=Br (m:=3)
  dsimp only
  rw[hb,jR (a:=ch)]
  unfold mS
  have hz:zP ((p0,p1,p2),(p3,p4,p5))=((p0==0&&(p1==0&&(p2==0&&true)))&&((p3==0&&(p4==0&&(p5==0&&true)))&&true)):=rfl
  have hzl:zL (q0,q1,q2,q3)=(q0==0&&((q1==0&&(q2==0&&(q3==0&&true)))&&true)):=rfl
  have hp:=fk ((p0,p1,p2),(p3,p4,p5))
  have hq:=fE (q0,q1,q2,q3)
  have hc:decide (ch=0)=(decide (ch=0)&&(decide (0<=ch)&&decide (ch<=7))):=by
   by_cases h:ch=0
   ·subst h;rfl
   ·rw[aW h];rfl
  simp only[hz,hzl]
  generalize ((p0==0&&(p1==0&&(p2==0&&true)))&&((p3==0&&(p4==0&&(p5==0&&true)))&&true))=a1
  generalize (q0==0&&((q1==0&&(q2==0&&(q3==0&&true)))&&true))=a2
  cases l.all cg
  ·show _=some (true&&(decide (l.length=3)&&false))
   generalize (decide (0<=ch)&&decide (ch<=7))=a6
   generalize decide (ch=0)=a8
   generalize decide (l.length=3)=a7
   cases a1<;>cases a2<;>cases a6<;>cases a7<;>cases a8<;>rfl
  ·rw[cond_true]
   simp only[Option.bind_some,pD]
   rw[hp,hq]
   generalize ny ((p0,p1,p2),(p3,p4,p5))=a3
   generalize lY (q0,q1,q2,q3)=a4
   show _=some (true&&(decide (l.length=3)&&(true&&((decide (0<=ch)&&decide (ch<=7))&&_))))
   generalize (decide (0<=ch)&&decide (ch<=7))=a6
   generalize decide (ch=0)=a8
   generalize decide (l.length=3)=a7
   cases a1<;>cases a2<;>cases a3<;>cases a4<;>cases a6<;>cases a7<;>cases a8<;>rfl
set_option maxHeartbeats 1000000 in
theorem aaL(nm:ByteArray)(l:List ByteArray)(ch p0 p1 p2 p3 p4 p5 q0 q1 q2 q3:Int)(hl:l.length<=1048576):
 bO (nm,11,l,ch,((p0,p1,p2),(p3,p4,p5)),(q0,q1,q2,q3))=some (cg nm&&mS 11 (nm,11,l,ch,((p0,p1,p2),(p3,p4,p5)),(q0,q1,q2,q3))):=by
 rw[bO,eo,ly,Option.bind_some]
 cases cg nm
 ·rfl
 ·have e:cH 11 1 12=some true:=by rw[gz];rfl
  have e2:dq 11=some 4:=by kernel_rfl
  have e3:cn 11=some true:=by kernel_rfl
  have hw:=pZ 11 ch nm ((p0,p1,p2),(p3,p4,p5)) (q0,q1,q2,q3) l hl l [] rfl
  simp only[List.length_nil]at hw
  have hw':bN (cb 0 nm 11 l ch p0 p1 p2 p3 p4 p5 q0 q1 q2 q3)=_:=hw
  rw[Bool.not_true,cond_false,e,Option.bind_some,Bool.not_true,cond_false,e2,Option.bind_some,gz,Option.bind_some,e3,Option.bind_some,hw']
  have hb:(((l.length:Nat):Int) !=4)= !decide (l.length=4):=Br (m:=4)
  dsimp only
  rw[hb,jR (a:=ch)]
  unfold mS
  have hz:zP ((p0,p1,p2),(p3,p4,p5))=((p0==0&&(p1==0&&(p2==0&&true)))&&((p3==0&&(p4==0&&(p5==0&&true)))&&true)):=rfl
  have hzl:zL (q0,q1,q2,q3)=(q0==0&&((q1==0&&(q2==0&&(q3==0&&true)))&&true)):=rfl
  have hp:=fk ((p0,p1,p2),(p3,p4,p5))
  have hq:=fE (q0,q1,q2,q3)
  have hc:decide (ch=0)=(decide (ch=0)&&(decide (0<=ch)&&decide (ch<=7))):=by
   by_cases h:ch=0
   ·subst h;rfl
   ·rw[aW h];rfl
  simp only[hz,hzl]
  generalize ((p0==0&&(p1==0&&(p2==0&&true)))&&((p3==0&&(p4==0&&(p5==0&&true)))&&true))=a1
  generalize (q0==0&&((q1==0&&(q2==0&&(q3==0&&true)))&&true))=a2
  cases l.all cg
  ·show _=some (true&&(decide (l.length=4)&&false))
   generalize (decide (0<=ch)&&decide (ch<=7))=a6
   generalize decide (ch=0)=a8
   generalize decide (l.length=4)=a7
   cases a1<;>cases a2<;>cases a6<;>cases a7<;>cases a8<;>rfl
  ·rw[cond_true]
   simp only[Option.bind_some,pD]
   rw[hp,hq]
   generalize ny ((p0,p1,p2),(p3,p4,p5))=a3
   generalize lY (q0,q1,q2,q3)=a4
   show _=some (true&&(decide (l.length=4)&&(true&&((decide (0<=ch)&&decide (ch<=7))&&_))))
   generalize (decide (0<=ch)&&decide (ch<=7))=a6
   generalize decide (ch=0)=a8
   generalize decide (l.length=4)=a7
   cases a1<;>cases a2<;>cases a3<;>cases a4<;>cases a6<;>cases a7<;>cases a8<;>rfl
set_option maxHeartbeats 1000000 in
theorem aaM(nm:ByteArray)(l:List ByteArray)(ch p0 p1 p2 p3 p4 p5 q0 q1 q2 q3:Int)(hl:l.length<=1048576):
 bO (nm,12,l,ch,((p0,p1,p2),(p3,p4,p5)),(q0,q1,q2,q3))=some (cg nm&&mS 12 (nm,12,l,ch,((p0,p1,p2),(p3,p4,p5)),(q0,q1,q2,q3))):=by
 rw[bO,eo,ly,Option.bind_some]
 cases cg nm
 ·rfl
 ·have e:cH 12 1 12=some true:=by rw[gz];rfl
  have e2:dq 12=some 3:=by kernel_rfl
  have e3:cn 12=some false:=by kernel_rfl
  have hw:=pZ 12 ch nm ((p0,p1,p2),(p3,p4,p5)) (q0,q1,q2,q3) l hl l [] rfl
  simp only[List.length_nil]at hw
  have hw':bN (cb 0 nm 12 l ch p0 p1 p2 p3 p4 p5 q0 q1 q2 q3)=_:=hw
  rw[Bool.not_true,cond_false,e,Option.bind_some,Bool.not_true,cond_false,e2,Option.bind_some,gz,Option.bind_some,e3,Option.bind_some,hw']
  have hb:(((l.length:Nat):Int) !=3)= !decide (l.length=3):=Br (m:=3)
  dsimp only
  rw[hb,jR (a:=ch)]
  unfold mS
  have hz:zP ((p0,p1,p2),(p3,p4,p5))=((p0==0&&(p1==0&&(p2==0&&true)))&&((p3==0&&(p4==0&&(p5==0&&true)))&&true)):=rfl
  have hzl:zL (q0,q1,q2,q3)=(q0==0&&((q1==0&&(q2==0&&(q3==0&&true)))&&true)):=rfl
  have hp:=fk ((p0,p1,p2),(p3,p4,p5))
  have hq:=fE (q0,q1,q2,q3)
  have hc:decide (ch=0)=(decide (ch=0)&&(decide (0<=ch)&&decide (ch<=7))):=by
   by_cases h:ch=0
   ·subst h;rfl
   ·rw[aW h];rfl
  simp only[hz,hzl]
  generalize ((p0==0&&(p1==0&&(p2==0&&true)))&&((p3==0&&(p4==0&&(p5==0&&true)))&&true))=a1
  generalize (q0==0&&((q1==0&&(q2==0&&(q3==0&&true)))&&true))=a2
  cases l.all cg
  ·show _=some (true&&(decide (l.length=3)&&false))
   generalize (decide (0<=ch)&&decide (ch<=7))=a6
   generalize decide (ch=0)=a8
   generalize decide (l.length=3)=a7
   cases a1<;>cases a2<;>cases a6<;>cases a7<;>cases a8<;>rfl
  ·rw[cond_true]
   simp only[Option.bind_some,pD]
   rw[hp,hq]
   generalize ny ((p0,p1,p2),(p3,p4,p5))=a3
   generalize lY (q0,q1,q2,q3)=a4
   show _=some (true&&(decide (l.length=3)&&(true&&(decide (ch=0)&&_))))
   rw[hc]
   generalize (decide (0<=ch)&&decide (ch<=7))=a6
   generalize decide (ch=0)=a8
   generalize decide (l.length=3)=a7
   cases a1<;>cases a2<;>cases a3<;>cases a4<;>cases a6<;>cases a7<;>cases a8<;>rfl
theorem TD{k:Int}(h:¬(1<=k/\k<=12)):(decide (1<=k)&&decide (k<=12))=false:=by
 by_cases h1:1<=k
 ·rw[aT h1,aW (fun h2=>h ⟨h1,h2⟩)];rfl
 ·rw[aW h1];rfl
theorem ZO(c:Cn)(hl:c.2.2.1.length<=1048576):bO c=some (OB c):=by
 obtain⟨nm,k,l,ch,⟨⟨p0,p1,p2⟩,⟨p3,p4,p5⟩⟩,⟨q0,q1,q2,q3⟩⟩:=c
 by_cases h:1<=k/\k<=12
 ·rcases Gd h.1 h.2 with rfl|rfl|rfl|rfl|rfl|rfl|rfl|rfl|rfl|rfl|rfl|rfl
  ·exact abG nm l ch p0 p1 p2 p3 p4 p5 q0 q1 q2 q3 hl
  ·exact abH nm l ch p0 p1 p2 p3 p4 p5 q0 q1 q2 q3 hl
  ·exact abI nm l ch p0 p1 p2 p3 p4 p5 q0 q1 q2 q3 hl
  ·exact abJ nm l ch p0 p1 p2 p3 p4 p5 q0 q1 q2 q3 hl
  ·exact abK nm l ch p0 p1 p2 p3 p4 p5 q0 q1 q2 q3 hl
  ·exact abL nm l ch p0 p1 p2 p3 p4 p5 q0 q1 q2 q3 hl
  ·exact abM nm l ch p0 p1 p2 p3 p4 p5 q0 q1 q2 q3 hl
  ·exact abN nm l ch p0 p1 p2 p3 p4 p5 q0 q1 q2 q3 hl
  ·exact abO nm l ch p0 p1 p2 p3 p4 p5 q0 q1 q2 q3 hl
  ·exact aaK nm l ch p0 p1 p2 p3 p4 p5 q0 q1 q2 q3 hl
  ·exact aaL nm l ch p0 p1 p2 p3 p4 p5 q0 q1 q2 q3 hl
  ·exact aaM nm l ch p0 p1 p2 p3 p4 p5 q0 q1 q2 q3 hl
 ·rw[bO,eo,ly,Option.bind_some,gz,Option.bind_some]
  unfold OB
  dsimp only
  rw[TD h]
  cases cg nm<;>rfl
theorem Zd(c:Cn)(hm:c.1.size<=9223372036854775807)(hl:c.2.2.1.length<=1048576)(hn:∀x∈c.2.2.1,x.size<=9223372036854775807):ak c=some (OB c):=by
 obtain⟨nm,k,l,ch,⟨⟨p0,p1,p2⟩,⟨p3,p4,p5⟩⟩,⟨q0,q1,q2,q3⟩⟩:=c
 by_cases h:1<=k/\k<=12
 ·rcases Gd h.1 h.2 with rfl|rfl|rfl|rfl|rfl|rfl|rfl|rfl|rfl|rfl|rfl|rfl
  ·exact abi nm l ch p0 p1 p2 p3 p4 p5 q0 q1 q2 q3 hm hl hn
  ·exact abj nm l ch p0 p1 p2 p3 p4 p5 q0 q1 q2 q3 hm hl hn
  ·exact abk nm l ch p0 p1 p2 p3 p4 p5 q0 q1 q2 q3 hm hl hn
  ·exact abl nm l ch p0 p1 p2 p3 p4 p5 q0 q1 q2 q3 hm hl hn
  ·exact abm nm l ch p0 p1 p2 p3 p4 p5 q0 q1 q2 q3 hm hl hn
  ·exact abn nm l ch p0 p1 p2 p3 p4 p5 q0 q1 q2 q3 hm hl hn
  ·exact abo nm l ch p0 p1 p2 p3 p4 p5 q0 q1 q2 q3 hm hl hn
  ·exact abp nm l ch p0 p1 p2 p3 p4 p5 q0 q1 q2 q3 hm hl hn
  ·exact abq nm l ch p0 p1 p2 p3 p4 p5 q0 q1 q2 q3 hm hl hn
  ·exact aal nm l ch p0 p1 p2 p3 p4 p5 q0 q1 q2 q3 hm hl hn
  ·exact aam nm l ch p0 p1 p2 p3 p4 p5 q0 q1 q2 q3 hm hl hn
  ·exact aan nm l ch p0 p1 p2 p3 p4 p5 q0 q1 q2 q3 hm hl hn
 ·rw[ak,bc,lq nm hm,Option.bind_some,oB,Option.bind_some]
  unfold OB
  dsimp only
  rw[TD h]
  cases cg nm<;>rfl
theorem SV:∀(n:Nat) (x:Int) (o:ByteArray),x.toNat=n->0<=x->(o.size:Int)+x<=1000000000000->∃t:ByteArray,mz (sN x o)=some (.inl (AM t))/\(t.size:Int)<=1000000000000:=by
 intro n
 induction n using Nat.strongRecOn with
 |_ n ih=>
  intro x o hn h0 hs
  rw[Ll,mw]
  by_cases hx:x>0
  ·have hd:Int.tdiv x 10=x/10:=Int.tdiv_eq_ediv_of_nonneg h0
   rw[aT hx,cond_true,aW ?_,cond_false,hd,aM (n:=x/10) (by omega) (by omega)]
   ·refine ih (x/10).toNat (by omega) _ _ rfl (by omega) ?_
    rw[ByteArray.size_append]
    show(((1+o.size:Nat):Int))+x/10<=_
    omega
   ·show¬(((1+o.size:Nat):Int)>9223372036854775807)
    omega
  ·rw[aW hx,cond_false]
   exact⟨o,rfl,by omega⟩
theorem SW{k:Int}(h0:1<=k)(h1:k<=100000000):∃t,gN k=some t:=by
 obtain⟨t,ht,hs⟩:=SV _ k ⟨#[]⟩ rfl (by omega) (by show((0:Nat):Int)+k<=_;omega)
 rw[gN,rH,aW (by omega),cond_false,ht]
 simp only[Option.bind_some,pD]
 rw[aW ?_,cond_false]
 ·exact⟨_,rfl⟩
 ·show¬(((1+t.size:Nat):Int)>9223372036854775807)
  omega
noncomputable def mtx(k:Int):ByteArray:=(gN k).getD ⟨#[]⟩
theorem H7{k:Int}(h0:1<=k)(h1:k<=100000000):gN k=some (mtx k):=by
 obtain⟨t,ht⟩:=SW h0 h1
 unfold mtx
 rw[ht];rfl
theorem aaT(x:Nm):lJ x x=some true:=by
 rw[lJ,uq];simp
theorem LC(a:List It)(hl:a.length<=1048576):∀(r p:List It),a=p++r->il (lv a a ((p.length:Nat):Int))=some (.inr (.inl wg))
 |[],p,h=>by
  rw[sT,ij,sk h,cond_false];rfl
 |x::r,p,h=>by
  rw[sT,ij,yd h,cond_true,ix h,Option.bind_some,Option.bind_some,OR,Option.bind_some,Bool.not_true,cond_false,wr h (by omega)]
  exact LC a hl r (p++ [x]) (Wn h)
theorem LD(a:List It)(hl:a.length<=1048576):gF a a=some true:=by
 have h':il (lv a a 0)=_:=LC a hl a [] rfl
 rw[gF,qz,h']
 simp[pD]
noncomputable def mkI(k:Int):It:=
 (mtx k,((Int.tmod (k+1) 3==0),(((k+1+1,(k+1+1+1,k+1+1+1+1)),(k+1+1+1+1+1,(k+1+1+1+1+1+1,k+1+1+1+1+1+1+1))),
   (k+1+1+1+1+1+1+1+1,(k+1+1+1+1+1+1+1+1+1,(k+1+1+1+1+1+1+1+1+1+1,k+1+1+1+1+1+1+1+1+1+1+1))))))
noncomputable def RJ:Int->Nat->List It
 |_,0=>[]
 |k,n+1=>mkI k::RJ (k+1+1+1+1+1+1+1+1+1+1+1+1) n
theorem OC{k:Int}(h0:0<=k)(h1:k<=100000000):IntKind.wrap .i64 (k+1)=k+1:=aM (by omega) (by omega)
theorem RD:∀(s q:List It) (k:Int),q.length+s.length<=1048576->1<=k->k+12*s.length<=90000000->
 jv (nT (q++s) k ((q.length:Nat):Int) (q++s))=some (.inl (zu (k+12*s.length) (q++RJ k s.length)))
 |[],q,k,h1,h2,h3=>by
  rw[Bl,jp,sk rfl,cond_false]
  simp[RJ];rfl
 |y::s,q,k,h1,h2,h3=>by
  simp only[List.length_cons]at h1 h3
  rw[Bl,jp,yd rfl,cond_true,H7 h2 (by omega),Option.bind_some]
  simp only[im,sm,Option.bind_some]
  rw[OC (k:=k) (by omega) (by omega),OC (k:=k+1) (by omega) (by omega),OC (k:=k+1+1) (by omega) (by omega),OC (k:=k+1+1+1) (by omega) (by omega),OC (k:=k+1+1+1+1) (by omega) (by omega),
   OC (k:=k+1+1+1+1+1) (by omega) (by omega),OC (k:=k+1+1+1+1+1+1) (by omega) (by omega),OC (k:=k+1+1+1+1+1+1+1) (by omega) (by omega),OC (k:=k+1+1+1+1+1+1+1+1) (by omega) (by omega),
   OC (k:=k+1+1+1+1+1+1+1+1+1) (by omega) (by omega),OC (k:=k+1+1+1+1+1+1+1+1+1+1) (by omega) (by omega),OC (k:=k+1+1+1+1+1+1+1+1+1+1+1) (by omega) (by omega)]
  rw[OC (k:=((q.length:Nat):Int)) (by omega) (by omega)]
  have IH:=RD s (q++ [mkI k]) (k+1+1+1+1+1+1+1+1+1+1+1+1) (by simp;omega) (by omega) (by omega)
  have hq:(((q++ [mkI k]).length:Nat):Int)=(q.length:Int)+1:=by simp
  rw[hq,List.append_assoc,List.append_assoc]at IH
  refine Eq.trans (Eq.trans ?_ IH) ?_
  ·rfl
  ·rw[show k+1+1+1+1+1+1+1+1+1+1+1+1+12*(s.length:Int)=k+12*(((y::s).length:Nat):Int) by simp;omega]
   rfl
theorem O4:∀(n:Nat) (k:Int),(RJ k n).length=n
 |0,_=>rfl
 |n+1,k=>by simp[RJ,O4 n]
theorem Rc(l:List It)(hl:l.length<=1048576):∀(n:Nat) (p:List It) (k:Int),l=p++RJ k n->1<=k->k+12*n<=90000000->
 ju (nS l k ((p.length:Nat):Int))=some (.inr (.inl (zt (k+12*n))))
 |0,p,k,h,h1,h2=>by
  rw[Bk,jo,sk h,cond_false]
  simp;rfl
 |n+1,p,k,h,h1,h2=>by
  rw[RJ]at h
  rw[Bk,jo,yd h,cond_true]
  simp only[ix h,Option.bind_some]
  rw[H7 h1 (by omega),Option.bind_some]
  rw[OC (k:=k) (by omega) (by omega),OC (k:=k+1) (by omega) (by omega),OC (k:=k+1+1) (by omega) (by omega),OC (k:=k+1+1+1) (by omega) (by omega),OC (k:=k+1+1+1+1) (by omega) (by omega),
   OC (k:=k+1+1+1+1+1) (by omega) (by omega),OC (k:=k+1+1+1+1+1+1) (by omega) (by omega),OC (k:=k+1+1+1+1+1+1+1) (by omega) (by omega),OC (k:=k+1+1+1+1+1+1+1+1) (by omega) (by omega),
   OC (k:=k+1+1+1+1+1+1+1+1+1) (by omega) (by omega),OC (k:=k+1+1+1+1+1+1+1+1+1+1) (by omega) (by omega),OC (k:=k+1+1+1+1+1+1+1+1+1+1+1) (by omega) (by omega)]
  simp only[mkI,beq_self_eq_true,Bool.not_true,cond_false,bne_self_eq_false]
  rw[wr h (by omega)]
  refine(Rc l hl n (p++ [mkI k]) _ (Wn h) (by omega) (by omega)).trans ?_
  rw[show k+1+1+1+1+1+1+1+1+1+1+1+1+12*(n:Int)=k+12*((n+1:Nat):Int) by omega]
theorem VP(l:List It)(hl:l.length<=1048576):lg l 1=some (1+12*(l.length:Int),RJ 1 l.length):=by
 have h':jv (nT l 1 0 l)=_:=RD l [] 1 (by simpa using hl) (by omega) (by omega)
 rw[lg,qC,h'];rfl
theorem Zc(n:Nat)(hn:n<=1048576):lf (RJ 1 n) 1=some (1+12*(n:Int)):=by
 have h':ju (nS (RJ 1 n) 1 0)=_:=Rc (RJ 1 n) (by rw[O4];exact hn) n [] 1 rfl (by omega) (by omega)
 rw[lf,qB,h'];rfl
end Go.Proofs.YtjkljnflaifbhaaGreatDoor
